/-
  AbsTrace: what a region's run is made of.
-/
import Derived.Test.YtlgnboohmahbaaaGreatDoorAbsHeap2
import Derived.Test.YtlgnboohmahbaaaGreatDoorAbsNat
set_option linter.unusedVariables false
set_option linter.unusedSimpArgs false
set_option linter.constructorNameAsVariable false
namespace Go.Abs
open Go
variable {O:Type} {P:Program} {G:List (Nat × Sm O)} {kE:List Nat} {dr:Bool} {ws:List Nat} {H8:List (Nat × Nat × List (Nat × Ty))} {ops:List Oper}
theorem lO:∀ {R:Type} (cf:List (Nat × Ty)) (i:Nat) (vs:List AV) (e:Env) (K:Env → Option R) (r:R),eI cf i vs e K=some r →
    ∃ e',K e'=some r ∧ ∀ t,e' t=e t ∨ ∃ (j:Nat) (ty:Ty),cf[j]? = some (t,ty) ∧ e' t=vs.getD (i+j) .u
  |_,[],i,vs,e,K,r,h=>⟨e,h,fun _=>.inl rfl⟩
  |_,(t,ty)::cf,i,vs,e,K,r,h=>by
    simp only [eI] at h
    have h:=wD h
    obtain ⟨e',h1,h2⟩:=lO cf (i+1) vs _ K r h
    refine ⟨e',h1,fun q=>?_⟩
    rcases h2 q with h3 |⟨j,ty',h3,h4⟩
    · rw [Env.tN] at h3
      by_cases hq:q=t
      · subst hq;rw [if_pos rfl] at h3;exact .inr ⟨0,ty,by simp,by simpa using h3⟩
      · rw [if_neg hq] at h3;exact .inl h3
    · exact .inr ⟨j+1,ty',by simpa using h3,by rw [h4];congr 1;omega⟩
theorem Pn {cf:List (Nat × Ty)} {e:Env} {j t:Nat} {ty:Ty} (h:cf[j]? = some (t,ty)):(ei cf e).getD j .u=e t:=by
  simp [ei,List.getD,h]
theorem Env.S4 (ws:List Nat) (e:Env) (t:Nat):Env.mask ws e t=if t∈ws then .u else e t:=by
  simp only [Env.mask]
  by_cases h:t∈ws
  · have:ws.elem t=true:=by simpa using h
    simp [this,h]
  · have:ws.elem t=false:=by simpa using h
    simp [this,h]
theorem PH {R:Type} {cf:List (Nat × Ty)} {e1 e0:Env} {ws:List Nat} {K:Env → Option R} {r:R} (h:eI cf 0 (ei cf e1) (Env.mask ws e0) K=some r):
    ∃ e',K e'=some r ∧ ∀ t,e' t=e1 t ∨ (t∈ws ∧ e' t=.u) ∨ (t∉ws ∧ e' t=e0 t):=by
  obtain ⟨e',h1,h2⟩:=lO _ _ _ _ _ _ h
  refine ⟨e',h1,fun t=>?_⟩
  rcases h2 t with h3 |⟨j,ty,h3,h4⟩
  · rw [Env.S4] at h3
    by_cases ht:t∈ws
    · rw [if_pos ht] at h3;exact .inr (.inl ⟨ht,h3⟩)
    · rw [if_neg ht] at h3;exact .inr (.inr ⟨ht,h3⟩)
  · left;rw [h4,Nat.zero_add,Pn h3]
theorem wx {R:Type} {cf:List (Nat × Ty)} {e1 e0:Env} {ws:List Nat} {K:Env → Option R} {r:R} (h:eI cf 0 (ei cf e1) (Env.mask ws e0) K=some r):
    ∃ e',K e'=some r ∧ ∀ t,e' t=e1 t ∨ e' t=.u ∨ (t∉ws ∧ e' t=e0 t):=by
  obtain ⟨e',h1,h2⟩:=PH h
  exact ⟨e',h1,fun t=>(h2 t).imp id (Or.imp And.right id)⟩
def BO (e' e:Env):Prop:=∀ t,e' t=e t ∨ e' t=.u
theorem BO.refl (e:Env):BO e e:=fun _=>.inl rfl
theorem BO.trans {e1 e2 e3:Env} (h:BO e1 e2) (h':BO e2 e3):BO e1 e3:=fun t=>by
  rcases h t with q |q
  · rcases h' t with q' | q'
    · exact .inl (q.trans q')
    · exact .inr (q.trans q')
  · exact .inr q
def dm (ops:List Oper) (e:Env) (o:Oper):Option Bool:=
  match o.guard with
  |none=>some true
  |some (j,want)=>
    match ops[j]? with
    |none=>none
    |some oj=>
      match oj.dst with
      |none=>none
      |some d=>match e d with |.b t=>some (t == want) |.aS []=>some false |_=>none
def Et (P:Program) (G:List (Nat × Sm O)) (ops:List Oper) (o:Oper) (s s':RS O) (v:AV):Prop:=
  BO s'.e (s.e.put o.dst v) ∧ s'.nid=(if aM o.op=true then s.nid+1 else s.nid) ∧
  (
   (dm ops s.e o=some true ∧ fe P G o.op o.type s.e s.σ s.nid two=some (v,s'.σ)) ∨
   (dm ops s.e o=some false ∧ v=.aS [] ∧ s'.σ=s.σ))
def Kept (o:Oper) (s:RS O) (v:AV) (σ:AH O):Prop:=
  (∀ t a,o.op=.load t a → ∃ b f,ev s.e a=.p (some (b,f)) ∧ ∀ k c,v.cells[k]? = some c → σ.ld b (f+k)=some c) ∧
  (∀ t t' x,o.op=.convert t t' x → ∀ a n,ev s.e x=.sl a n → σ.bC a n 1=s.σ.bC a n 1)
theorem Iw {R:Type} {j:Nat} {σ:AH O}:∀ (l:List (Nat × LdC O)) (K:Option R) (r:R),aal kE j σ l K=some r → K=some r ∧ ∀ x∈l,bit (kE.getD j 0) x.1=false → x.2.p σ
  |[],K,r,h=>⟨h,by simp⟩
  |(i,p)::l,K,r,h=>by
    simp only [aal] at h
    cases hb:bit (kE.getD j 0) i with
    |true=>
      rw [hb] at h
      obtain ⟨h1,h2⟩:=Iw l K r h
      refine ⟨h1,fun x hx hbx=>?_⟩
      rcases List.mem_cons.1 hx with rfl |hx
      · rw [hb] at hbx;cases hbx
      · exact h2 x hx hbx
    |false=>
      rw [hb] at h
      obtain ⟨u,hu,h⟩:=Option.bind_eq_some_iff.1 h
      obtain ⟨h1,h2⟩:=Iw l K r h
      refine ⟨h1,fun x hx hbx=>?_⟩
      rcases List.mem_cons.1 hx with rfl |hx
      · exact p.h _ _ hu
      · exact h2 x hx hbx
theorem JF {i:Nat} {b:jJ}:∀ (l:List AV) (o k:Nat) (c:AV),l[k]? = some c → ∃ x∈Qy (O:=O) i b o l,x.1=i ∧ ∀ σ,x.2.p σ → σ.ld b (o+k)=some c
  |[],o,k,c,h=>by cases h
  |v::l,o,0,c,h=>by cases h;exact ⟨_,List.mem_cons_self,rfl,fun σ h=>h⟩
  |v::l,o,k+1,c,h=>by
    obtain ⟨x,h1,h2,h3⟩:=JF l (o+1) k c (by simpa using h)
    exact ⟨x,List.mem_cons_of_mem _ h1,h2,fun σ hx=>by rw [← h3 σ hx];congr 1;omega⟩
theorem Wi {R:Type} {i:Nat} {o:Oper} {s:RS O} {K:RS O → Option R} {r:R} (h:Pb P G kE dr i o s K=some r):
    ∃ s' v,K s'=some r ∧ fe P G o.op o.type s.e s.σ s.nid two=some (v,s'.σ) ∧ s'.e=s.e.put o.dst v ∧ s'.nid=(if aM o.op=true then s.nid+1 else s.nid) ∧
      (dr=true → (∃ l,s'.de=s.de++l ∧ ∀ σ,(∀ x∈l,x.1=i → x.2.p σ) → Kept o s v σ) ∧ (turns o.op=true → ∀ x∈s.de,bit (kE.getD i 0) x.1=false → x.2.p s'.σ)):=by
  unfold Pb at h
  rw [adE] at h
  obtain ⟨⟨v,aj⟩,hv,h⟩:=Option.bind_eq_some_iff.1 h
  simp only at h
  have hn:(bif aM o.op then s.nid+1 else s.nid)=(if aM o.op=true then s.nid+1 else s.nid):=by cases aM o.op<;>rfl
  cases dr with
  |false=>
    simp only [cond_false] at h
    exact ⟨_,v,h,hv,rfl,hn,fun e=>by cases e⟩
  |true=>
    simp only [cond_true] at h
    split at h
    · rename_i t a Gw
      obtain ⟨b,f,hev,h⟩:=nS h
      refine ⟨_,v,h,hv,rfl,hn,fun _=>⟨⟨_,rfl,fun σ hx=>⟨?_,?_⟩⟩,?_⟩⟩
      · intro t' a' e
        rw [Gw] at e;cases e
        refine ⟨b,f,hev,fun k c hk=>?_⟩
        obtain ⟨x,q1,q2,q3⟩:=JF (O:=O) (i:=i) (b:=b) v.cells f k c hk
        exact q3 σ (hx x q1 q2)
      · intro t' t'' x e;rw [Gw] at e;cases e
      · intro e;rw [Gw] at e;cases e
    · rename_i t t' x Gw
      split at h
      · rename_i a m hev
        refine ⟨_,v,h,hv,rfl,hn,fun _=>⟨⟨_,rfl,fun σ hx=>⟨?_,?_⟩⟩,?_⟩⟩
        · intro t' a' e;rw [Gw] at e;cases e
        · intro t2 t3 x' e a' m' Yn
          rw [Gw] at e;cases e
          rw [hev] at Yn;cases Yn
          exact hx _ (List.mem_singleton.2 rfl) rfl
        · intro e;rw [Gw] at e;cases e
      · rename_i jL
        refine ⟨_,v,h,hv,rfl,hn,fun _=>⟨⟨[],by simp,fun σ hx=>⟨?_,?_⟩⟩,?_⟩⟩
        · intro t' a' e;rw [Gw] at e;cases e
        · intro t2 t3 x' e a' m' Yn
          rw [Gw] at e;cases e
          exact absurd Yn (jL a' m')
        · intro e;rw [Gw] at e;cases e
    · rename_i hnl hnc
      cases ht:turns o.op with
      |true=>
        rw [ht] at h
        obtain ⟨h1,h2⟩:=Iw _ _ _ h
        exact ⟨_,v,h1,hv,rfl,hn,fun _=>⟨⟨[],by simp,fun σ _=>⟨fun t a e=>absurd e (hnl t a),fun t t' x e=>absurd e (hnc t t' x)⟩⟩,fun _=>h2⟩⟩
      |false=>
        rw [ht] at h
        exact ⟨_,v,h,hv,rfl,hn,fun _=>⟨⟨[],by simp,fun σ _=>⟨fun t a e=>absurd e (hnl t a),fun t t' x e=>absurd e (hnc t t' x)⟩⟩,fun e=>by cases e⟩⟩
structure TC (s s':RS O):Prop where
  e:BO s.e s'.e
  σ:s.σ=s'.σ
  nid:s.nid=s'.nid
theorem Env.Md {e:Env} {d:Nat} {v:AV} (h:e d=v):e.set d v=e:=by
  funext t;rw [Env.tN];split
  · rename_i ht;rw [ht,h]
  · rfl
structure Tr (P:Program) (G:List (Nat × Sm O)) (kE:List Nat) (dr:Bool) (ops:List Oper) (l:List Nat) (s:RS O) (S:Nat → RS O) (V:Nat → AV):Prop where
  z:TC (S 0) s
  st:∀ p,p<l.length → ∃ i o,l[p]? = some i ∧ ops[i]? = some o ∧ Et P G ops o (S p) (S (p+1)) (V p)
  ld:dr=true → ∀ x∈s.de,∀ p i o,l[p]? = some i → ops[i]? = some o → dm ops (S p).e o=some true → turns o.op=true → bit (kE.getD i 0) x.1=false → x.2.p (S (p+1)).σ
  kp:dr=true → ∀ q p i o i' o',q<p → l[q]? = some i → ops[i]? = some o → l[p]? = some i' → ops[i']? = some o' → de o.op=true → dm ops (S q).e o=some true → dm ops (S p).e o'=some true → turns o'.op=true → bit (kE.getD i' 0) i=false →
    Kept o (S q) (V q) (S (p+1)).σ
theorem Et.bn {o:Oper} {s s' s'':RS O} {v:AV} (h:Et P G ops o s s' v) (h':TC s'' s'):Et P G ops o s s'' v:=
  ⟨h'.e.trans h.1,h'.nid.trans h.2.1,by rw [h'.σ];exact h.2.2⟩
theorem Tr.app {l1 l2:List Nat} {s s2:RS O} {S1 S2:Nat → RS O} {V1 V2:Nat → AV} (h1:Tr P G kE dr ops l1 s S1 V1) (h2:Tr P G kE dr ops l2 s2 S2 V2) (hl:0<l1.length) (hs:TC s2 (S1 l1.length)) (we:dr=true → ∀ x∈s.de,x∈s2.de)
    (hx:dr=true → ∀ q p i o i' o',l1[q]? = some i → ops[i]? = some o → l2[p]? = some i' → ops[i']? = some o' → de o.op=true → dm ops (S1 q).e o=some true → dm ops (S2 p).e o'=some true → turns o'.op=true → bit (kE.getD i' 0) i=false → Kept o (S1 q) (V1 q) (S2 (p+1)).σ):
    Tr P G kE dr ops (l1++l2) s (fun p=>if p<l1.length then S1 p else S2 (p - l1.length)) (fun p=>if p<l1.length then V1 p else V2 (p - l1.length)):=by
  have hsm:TC (S2 0) (S1 l1.length):=⟨h2.z.e.trans hs.e,h2.z.σ.trans hs.σ,h2.z.nid.trans hs.nid⟩
  have nxt:∀ p,p<l1.length → TC (if p+1<l1.length then S1 (p+1) else S2 (p+1 - l1.length)) (S1 (p+1)):=fun p hp=>by
    by_cases h:p+1<l1.length
    · rw [if_pos h];exact ⟨BO.refl _,rfl,rfl⟩
    · have e:p+1=l1.length:=by omega
      rw [if_neg h,e,Nat.sub_self];exact hsm
  have aih:∀ p,¬ p<l1.length → (if p+1<l1.length then S1 (p+1) else S2 (p+1 - l1.length))=S2 (p - l1.length+1):=fun p hp=>by
    rw [if_neg (by omega)];congr 1;omega
  have g1:∀ {p i},p<l1.length → (l1++l2)[p]? = some i → l1[p]? = some i:=fun hp h=>by rwa [List.getElem?_append_left hp] at h
  have g2:∀ {p i},¬ p<l1.length → (l1++l2)[p]? = some i → l2[p - l1.length]? = some i:=fun hp h=>by rwa [List.getElem?_append_right (by omega)] at h
  refine ⟨?_,fun p hp=>?_,fun hd x hxm p i o a1 a2 a3 a4 a5=>?_,fun hd q p i o i' o' Vf a1 a2 a3 a4 a5 a6 a7 a8 a9=>?_⟩
  · show TC (if 0<l1.length then S1 0 else _) s
    rw [if_pos hl];exact h1.z
  · by_cases h:p<l1.length
    · obtain ⟨i,o,b1,b2,b3⟩:=h1.st p h
      refine ⟨i,o,by rw [List.getElem?_append_left h];exact b1,b2,?_⟩
      simp only [if_pos h]
      exact b3.bn (nxt p h)
    · obtain ⟨i,o,b1,b2,b3⟩:=h2.st (p - l1.length) (by simp at hp;omega)
      refine ⟨i,o,by rw [List.getElem?_append_right (by omega)];exact b1,b2,?_⟩
      simp only [if_neg h,aih p h]
      exact b3
  · by_cases h:p<l1.length
    · simp only [if_pos h] at a3
      show x.2.p (if p+1<l1.length then S1 (p+1) else S2 (p+1 - l1.length)).σ
      rw [(nxt p h).σ]
      exact h1.ld hd x hxm p i o (g1 h a1) a2 a3 a4 a5
    · simp only [if_neg h] at a3
      show x.2.p (if p+1<l1.length then S1 (p+1) else S2 (p+1 - l1.length)).σ
      rw [aih p h]
      exact h2.ld hd x (we hd x hxm) _ i o (g2 h a1) a2 a3 a4 a5
  · show Kept o _ _ (if p+1<l1.length then S1 (p+1) else S2 (p+1 - l1.length)).σ
    by_cases h:p<l1.length
    · have hq:q<l1.length:=by omega
      simp only [if_pos h] at a7
      simp only [if_pos hq] at a6 ⊢
      rw [(nxt p h).σ]
      exact h1.kp hd q p i o i' o' Vf (g1 hq a1) a2 (g1 h a3) a4 a5 a6 a7 a8 a9
    · simp only [if_neg h] at a7
      rw [aih p h]
      by_cases hq:q<l1.length
      · simp only [if_pos hq] at a6 ⊢
        exact hx hd q _ i o i' o' (g1 hq a1) a2 (g2 h a3) a4 a5 a6 a7 a8 a9
      · simp only [if_neg hq] at a6 ⊢
        exact h2.kp hd _ _ i o i' o' (by omega) (g2 hq a1) a2 (g2 h a3) a4 a5 a6 a7 a8 a9
theorem Tr.one {i:Nat} {o:Oper} {s s':RS O} {v:AV} (ho:ops[i]? = some o) (h:Et P G ops o s s' v)
    (hl:dr=true → dm ops s.e o=some true → turns o.op=true → ∀ x∈s.de,bit (kE.getD i 0) x.1=false → x.2.p s'.σ):Tr P G kE dr ops [i] s (fun p=>if p=0 then s else s') (fun _=>v):=by
  refine ⟨⟨BO.refl _,rfl,rfl⟩,fun p hp=>?_,fun hd x hxm p i' o' a1 a2 a3 a4 a5=>?_,fun hd q p i1 o1 i' o' Vf a1 a2 a3=>?_⟩
  · obtain rfl:p=0:=by simpa using hp
    exact ⟨i,o,rfl,ho,h⟩
  · have hp:p=0:=by
      have:=(List.getElem?_eq_some_iff.1 a1).1;simpa using this
    subst hp
    cases a1
    rw [ho] at a2;cases a2
    exact hl hd a3 a4 x hxm a5
  · have:p<1:=(List.getElem?_eq_some_iff.1 a3).1
    omega
structure Wj (P:Program) (G:List (Nat × Sm O)) (kE:List Nat) (dr:Bool) (ops:List Oper) (l:List Nat) (s:RS O) (s':RS O) (S:Nat → RS O) (V:Nat → AV):Prop where
  tr:Tr P G kE dr ops l s S V
  fin:TC s' (S l.length)
  nid:s'.nid=tL ops l s.nid
  out:∀ t,t∉H9 ops l → s'.e t=s.e t
theorem PI (ops:List Oper):∀ (l1 l2:List Nat) (n:Nat),tL ops (l1++l2) n=tL ops l2 (tL ops l1 n)
  |[],_,_=>rfl
  |q::l1,l2,n=>by simp only [List.cons_append,tL];exact PI ops l1 l2 _
theorem Wj.app {l1 l2:List Nat} {s s1 s2 s3:RS O} {S1 S2:Nat → RS O} {V1 V2:Nat → AV} (h1:Wj P G kE dr ops l1 s s1 S1 V1) (h2:Wj P G kE dr ops l2 s2 s3 S2 V2) (hl:0<l1.length) (hs:TC s2 s1) (ho:∀ t,t∉H9 ops l1 → s2.e t=s1.e t) (we:dr=true → ∀ x∈s.de,x∈s2.de)
    (hx:dr=true → ∀ q p i o i' o',l1[q]? = some i → ops[i]? = some o → l2[p]? = some i' → ops[i']? = some o' → de o.op=true → dm ops (S1 q).e o=some true → dm ops (S2 p).e o'=some true → turns o'.op=true → bit (kE.getD i' 0) i=false → Kept o (S1 q) (V1 q) (S2 (p+1)).σ):
    ∃ S V,Wj P G kE dr ops (l1++l2) s s3 S V:=by
  refine ⟨_,_,h1.tr.app h2.tr hl ⟨hs.e.trans h1.fin.e,hs.σ.trans h1.fin.σ,hs.nid.trans h1.fin.nid⟩ we hx,?_,?_,fun t ht=>by
    simp only [H9,List.filterMap_append,List.mem_append,not_or] at ht
    exact (h2.out t ht.2).trans ((ho t ht.1).trans (h1.out t ht.1))⟩
  · simp only [List.length_append]
    rw [if_neg (by omega)]
    have:l1.length+l2.length - l1.length=l2.length:=by omega
    rw [this];exact h2.fin
  · rw [PI,← h1.nid,h2.nid,hs.nid]
theorem Wj.cons {i:Nat} {o:Oper} {l:List Nat} {s s' s3:RS O} {v:AV} {S2:Nat → RS O} {V2:Nat → AV} (ho:ops[i]? = some o) (he:s'.e=s.e.put o.dst v) (h:Et P G ops o s s' v)
    (hl:dr=true → dm ops s.e o=some true → turns o.op=true → ∀ x∈s.de,bit (kE.getD i 0) x.1=false → x.2.p s'.σ)
    (hk:dr=true → ∃ l,s'.de=s.de++l ∧ (dm ops s.e o=some true → ∀ σ,(∀ x∈l,x.1=i → x.2.p σ) → Kept o s v σ))
    (h2:Wj P G kE dr ops l s' s3 S2 V2):∃ S V,Wj P G kE dr ops (i::l) s s3 S V:=by
  have one:Wj P G kE dr ops [i] s s' (fun p=>if p=0 then s else s') (fun _=>v):=by
    refine ⟨Tr.one ho h hl,⟨BO.refl _,rfl,rfl⟩,?_,fun t ht=>?_⟩
    · simp only [tL,ho];rw [h.2.1];cases aM o.op<;>rfl
    · rw [he]
      cases hd:o.dst with
      |none=>rfl
      |some d=>
        simp only [Env.put,Env.tN]
        rw [if_neg (by intro e;subst e;exact ht (by simp [H9,ho,hd]))]
  refine one.app h2 (by simp) ⟨BO.refl _,rfl,rfl⟩ (fun _ _=>rfl) (fun hd x hx=>?_) fun hd q p i1 o1 i' o' a1 a2 a3 a4 a5 a6 a7 a8 a9=>?_
  · obtain ⟨l',e,_⟩:=hk hd
    rw [e];exact List.mem_append_left _ hx
  · have hq:q=0:=by
      have:=(List.getElem?_eq_some_iff.1 a1).1;simpa using this
    subst hq
    cases a1
    rw [ho] at a2;cases a2
    obtain ⟨l',e,hkk⟩:=hk hd
    refine hkk a6 _ fun x hx hxi=>?_
    exact h2.tr.ld hd x (by rw [e];exact List.mem_append_right _ hx) p i' o' a3 a4 a7 a8 (by rw [hxi];exact a9)
theorem QY {l1 l2:List Nat} (h:Qz kE ops l1 l2=true) {q p i i':Nat} {o o':Oper} (a1:l1[q]? = some i) (a2:ops[i]? = some o) (a3:l2[p]? = some i') (a4:ops[i']? = some o') (a5:de o.op=true) (a6:turns o'.op=true):bit (kE.getD i' 0) i=true:=by
  have h1:=List.all_eq_true.1 h i (List.mem_of_getElem? a1)
  simp only [a2,a5,Bool.not_true,Bool.false_or] at h1
  have h2:=List.all_eq_true.1 h1 i' (List.mem_of_getElem? a3)
  simpa only [a4,a6,Bool.not_true,Bool.false_or] using h2
theorem trace:∀ (f:Nat) (l:List Nat) {R:Type} (s:RS O) (K:RS O → Option R) (r:R),H' P G kE dr H8 ops f l s K=some r →
    ∃ (S:Nat → RS O) (V:Nat → AV) (s':RS O),Wj P G kE dr ops l s s' S V ∧ K s'=some r:=by
  have nil:∀ {R:Type} (s:RS O) (K:RS O → Option R) (r:R),K s=some r → ∃ (S:Nat → RS O) (V:Nat → AV) (s':RS O),Wj P G kE dr ops [] s s' S V ∧ K s'=some r:=fun s K r h=>
    ⟨fun _=>s,fun _=>.u,s,⟨⟨⟨BO.refl _,rfl,rfl⟩,fun p hp=>absurd hp (by simp),fun _ _ _ p i o h=>absurd h (by simp),fun _ q p i o i' o' _ h=>absurd h (by simp)⟩,⟨BO.refl _,rfl,rfl⟩,rfl,fun _ _=>rfl⟩,h⟩
  intro f
  induction f with
  |zero=>
    intro l R s K r h
    cases l with
    |nil=>exact nil s K r h
    |cons=>cases h
  |succ f ih=>
    intro l R s K r h
    cases l with
    |nil=>exact nil s K r h
    |cons i l=>
      simp only [H'] at h
      split at h
      · cases h
      · rename_i o ho
        have step:∀ {R':Type} {l':List Nat} {s1:RS O} {K':RS O → Option R'} {r':R'},s1.e=s.e → s1.σ=s.σ → s1.nid=s.nid → s1.de=s.de → dm ops s.e o=some true → Pb P G kE dr i o s1 (fun s'=>H' P G kE dr H8 ops f l' s' K')=some r' →
            ∃ (S:Nat → RS O) (V:Nat → AV) (s':RS O),Wj P G kE dr ops (i::l') s s' S V ∧ K' s'=some r':=by
          intro R' l' s1 K' r' e1 e2 e3 e4 hw h
          obtain ⟨s',v,h1,h2,h3,h4,h6⟩:=Wi h
          rw [e1,e2,e3] at h2
          rw [e1] at h3
          rw [e3] at h4
          rw [e4] at h6
          obtain ⟨S,V,s'',g1,g2⟩:=ih l' s' K' r' h1
          have alp:∀ σ,Kept o s1 v σ → Kept o s v σ:=fun σ hk=>by unfold Kept at hk ⊢;rw [e1,e2] at hk;exact hk
          obtain ⟨S',V',g⟩:=Wj.cons ho h3 (⟨by rw [h3];exact BO.refl _,h4,.inl ⟨hw,h2⟩⟩:Et P G ops o s s' v) (fun hd _ ht=>(h6 hd).2 ht) (fun hd=>by obtain ⟨⟨l2,q1,q2⟩,_⟩:=h6 hd;exact ⟨l2,q1,fun _ σ hx=>alp σ (q2 σ hx)⟩) g1
          exact ⟨S',V',s'',g,g2⟩
        have skip:∀ {R':Type} {l':List Nat} {s1:RS O} {K':RS O → Option R'} {r':R'},s1.e=s.e.put o.dst (.aS []) → s1.σ=s.σ → s1.nid=(bif aM o.op then s.nid+1 else s.nid) → s1.de=s.de → dm ops s.e o=some false → H' P G kE dr H8 ops f l' s1 K'=some r' →
            ∃ (S:Nat → RS O) (V:Nat → AV) (s':RS O),Wj P G kE dr ops (i::l') s s' S V ∧ K' s'=some r':=by
          intro R' l' s1 K' r' e1 e2 e3 e4 hw h
          obtain ⟨S,V,s'',g1,g2⟩:=ih l' s1 K' r' h
          have e3':s1.nid=(if aM o.op=true then s.nid+1 else s.nid):=by rw [e3];cases aM o.op<;>rfl
          obtain ⟨S',V',g⟩:=Wj.cons ho e1 (⟨by rw [e1];exact BO.refl _,e3',.inr ⟨hw,rfl,e2⟩⟩:Et P G ops o s s1 (.aS [])) (fun hd hw'=>by rw [hw] at hw';cases hw') (fun hd=>⟨[],by simp [e4],fun hw'=>by rw [hw] at hw';cases hw'⟩) g1
          exact ⟨S',V',s'',g,g2⟩
        split at h
        · rename_i hg
          exact step rfl rfl rfl rfl (by simp [dm,hg]) h
        · rename_i j want hg
          split at h
          · cases h
          · rename_i oj hoj
            split at h
            · cases h
            · rename_i d hd
              split at h
              · rename_i t ht
                have hw:dm ops s.e o=some (t == want):=by simp [dm,hg,hoj,hd,ht]
                cases alq:s.dec.elem j with
                |true=>
                  rw [alq] at h
                  simp only [cond_true] at h
                  cases htw:(t == want) with
                  |true=>
                    simp only [htw,cond_true] at h
                    exact step rfl rfl rfl rfl (by rw [hw,htw]) h
                  |false=>
                    simp only [htw,cond_false] at h
                    exact skip (s1:={s with e:=s.e.put o.dst (.aS []),nid:=bif aM o.op then s.nid+1 else s.nid}) rfl rfl rfl rfl (by rw [hw,htw]) h
                |false=>
                  rw [alq] at h
                  simp only [cond_false] at h
                  generalize (kv l.length j H8)=sc at h
                  cases hsc:(dr && !Qz kE ops (i::l.take sc.1) (l.drop sc.1)) with
                  |true=>rw [hsc] at h;cases h
                  |false=>
                    rw [hsc] at h
                    simp only [cond_false] at h
                    obtain ⟨r0,Yr,h⟩:=Option.bind_eq_some_iff.1 h
                    have br:∃ (S:Nat → RS O) (V:Nat → AV) (s':RS O),Wj P G kE dr ops (i::l.take sc.1) s s' S V ∧ some (ei sc.2 s'.e,s'.σ)=some r0:=by
                      cases htw:(t == want) with
                      |true=>
                        simp only [htw,cond_true] at Yr
                        have aii:t=want:=by simpa using htw
                        exact step (s1:={s with e:=s.e.set d (.b want),dec:=j::s.dec}) (Env.Md (by rw [ht,aii])) rfl rfl rfl (by rw [hw,htw]) Yr
                      |false=>
                        simp only [htw,cond_false] at Yr
                        have aii:t = !want:=by cases t<;>cases want<;>simp at htw ⊢
                        have hse:s.e.set d (.b !want)=s.e:=Env.Md (by rw [ht,aii])
                        exact skip (s1:={s with e:=(s.e.set d (.b !want)).put o.dst (.aS []),dec:=j::s.dec,nid:=bif aM o.op then s.nid+1 else s.nid}) (by show (s.e.set d (.b !want)).put o.dst (.aS [])=_;rw [hse]) rfl rfl rfl (by rw [hw,htw]) Yr
                    obtain ⟨S1,V1,s1,g1,g2⟩:=br
                    obtain rfl:(ei sc.2 s1.e,s1.σ)=r0:=by simpa using g2
                    obtain ⟨e',k1,k2⟩:=PH h
                    obtain ⟨S2,V2,s3,q1,q2⟩:=ih _ _ _ _ k1
                    have alr:∀ t,t∉H9 ops (i::l.take sc.1) → e' t=s1.e t:=fun t ht=>by
                      rcases k2 t with q |⟨q,_⟩ |⟨_,q⟩
                      · exact q
                      · exact absurd q ht
                      · exact q.trans (g1.out t ht).symm
                    have hwk:BO e' s1.e:=fun t=>by
                      rcases k2 t with q |⟨_,q⟩ |⟨q1,q⟩
                      · exact .inl q
                      · exact .inr q
                      · exact .inl (alr t q1)
                    have:=g1.app q1 (by simp) ⟨hwk,rfl,g1.nid.symm⟩ alr (fun _ x hx=>hx) (fun xZ q p i1 o1 i' o' a1 a2 a3 a4 a5 _ _ a8 a9=>by
                      rw [xZ,Bool.true_and,Bool.not_eq_false'] at hsc
                      rw [QY hsc a1 a2 a3 a4 a5 a8] at a9;cases a9)
                    rw [List.cons_append,List.take_append_drop] at this
                    obtain ⟨S,V,g⟩:=this
                    exact ⟨S,V,s3,g,q2⟩
              · rename_i ht
                exact skip (s1:={s with e:=s.e.put o.dst (.aS []),nid:=bif aM o.op then s.nid+1 else s.nid}) rfl rfl rfl rfl (by simp [dm,hg,hoj,hd,ht]) h
              · cases h
end Go.Abs
