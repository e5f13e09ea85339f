/-
  AbsDraw3: what is known while a drawn region's operations are run in some order.
-/
import Derived.Test.YtlgnboohmahbaaaGreatDoorAbsDraw2
set_option linter.unusedVariables false
set_option linter.unusedSimpArgs false
set_option linter.constructorNameAsVariable false
namespace Go.Abs
open Go
variable {O:Type} {RO:O → Loc → (Nat → Option Obj) → Prop} {P:Program} {G:List (Nat × Sm O)} {n:Nat}
def At (ops:List Oper) (l:List Nat) (p i:Nat) (o:Oper):Prop:=l[p]? = some i ∧ ops[i]? = some o
structure Sch (ops:List Oper) (l:List Nat):Prop where
 len:l.length=ops.length
 pos:∀ i,i<ops.length → ∃ p:Nat,l[p]? = some i
 pair:∀ p q i i' o o',p<q → At ops l p i o → At ops l q i' o' → aao ops i i' o o'
 apb:∀ p i o,At ops l p i o → ∀ e∈o.after,Region.binds .any e=true → ∃ q:Nat,q<p ∧ l[q]? = some e.on
 odd:∀ (i:Nat) (o:Oper),ops[i]? = some o → agK o=true
 cnt:tL ops l 0=fM ops
theorem Gy {ops:List Oper}:∀ {l done:List Nat},Lj ops done l=true → ∀ (p i:Nat) (o:Oper),At ops l p i o → ∀ e∈o.after,Region.binds .any e=true → e.on∈done ∨ ∃ q:Nat,q<p ∧ l[q]? = some e.on
 |[],_,_,p,i,o,h,_,_,_=>by cases h.1
 |x::l,done,h,p,i,o,fx,e,he,hb=>by
  simp only [Lj,Bool.and_eq_true] at h
  cases p with
  |zero=>
   obtain ⟨h1,h2⟩:=fx
   cases h1
   rw [h2] at h
   have:=List.all_eq_true.1 h.1 e (by simpa using he)
   rw [hb] at this
   exact .inl (by simpa using this)
  |succ p=>
   rcases Gy h.2 p i o ⟨by simpa using fx.1,fx.2⟩ e he hb with h1 |⟨q,h1,h2⟩
   ·rcases List.mem_cons.1 h1 with h1 |h1
    ·exact .inr ⟨0,by omega,by rw [h1];rfl⟩
    ·exact .inl h1
   ·exact .inr ⟨q+1,by omega,by simpa using h2⟩
theorem QE {ops:List Oper} {l:List Nat} (h:Qx ops (Gu ops) l=true):Sch ops l:=by
 unfold Qx at h
 simp only [Bool.and_eq_true] at h
 obtain ⟨⟨⟨⟨⟨⟨h1,h2⟩,h3⟩,h4⟩,h5⟩,h6⟩,h7⟩:=h
 refine ⟨Nat.eq_of_beq_eq_true h1,fun i hi=>?_,fun p q i i' o o' hpq hp hq=>?_,fun p i o hp e he hb=>?_,fun i o ho=>List.all_eq_true.1 h5 o (List.mem_of_getElem? ho),Nat.eq_of_beq_eq_true h7⟩
 ·have:=List.all_eq_true.1 h3 i (by simpa using hi)
  exact List.getElem?_of_mem (by simpa using this)
 ·exact SZ (LB h4 p q i i' hpq hp.1 hq.1) hp.2 hq.2
 ·rcases Gy h6 p i o hp e he hb with h |h
  ·cases h
  ·exact h
theorem Ph {ops:List Oper}:∀ (l:List Nat) (k m:Nat),tL ops l (k+m)=tL ops l k+m
 |[],_,_=>rfl
 |q::l,k,m=>by
  simp only [tL]
  rw [← Ph l]
  congr 1
  split
  ·rename_i o _;cases aM o.op<;>simp only [cond_true,cond_false]<;>omega
  ·rfl
section order
variable {ops:List Oper} {l:List Nat}
theorem At.lt {p i:Nat} {o:Oper} (h:At ops l p i o):p<l.length:=(List.getElem?_eq_some_iff.1 h.1).1
theorem At.fn {p i i':Nat} {o o':Oper} (h:At ops l p i o) (h':At ops l p i' o'):i=i' ∧ o=o':=by
 obtain ⟨h1,h2⟩:=h
 obtain ⟨h3,h4⟩:=h'
 rw [h1] at h3;cases h3
 rw [h2] at h4;cases h4
 exact ⟨rfl,rfl⟩
theorem At.inj (hs:Sch ops l) {p q i:Nat} {o o':Oper} (h:At ops l p i o) (h':At ops l q i o'):p=q:=by
 rcases Nat.lt_trichotomy p q with hh |hh |hh
 ·exact absurd rfl (hs.pair p q i i o o' hh h h').ne
 ·exact hh
 ·exact absurd rfl (hs.pair q p i i o' o hh h' h).ne
end order
structure QB (ops:List Oper) (S:Nat → RS O) (p:Nat) (o:Oper) (b:Nat) (x:oM O):Prop where
 al:aM o.op=true
 nt:turns o.op=false
 wt:dm ops (S p).e o=some true
 id:b=(S p).nid
 σ:(S (p+1)).σ=(S p).σ.put b x
 sh:∃ el cs,x=.cells true el cs
structure JB (P:Program) (G:List (Nat × Sm O)) (ops:List Oper) (l:List Nat) (S:Nat → RS O) (V:Nat → AV):Prop where
 Vc:Sch ops l
 st:∀ p i o,At ops l p i o → Et P G ops o (S p) (S (p+1)) (V p)
 kp:∀ q p i o i' o',q<p → At ops l q i o → At ops l p i' o' → de o.op=true → dm ops (S q).e o=some true → dm ops (S p).e o'=some true → turns o'.op=true → bit ((Gu ops).getD i' 0) i=false → Kept o (S q) (V q) (S (p+1)).σ
section run
variable {ops:List Oper} {l:List Nat} {S:Nat → RS O} {V:Nat → AV}
theorem JB.still (h:JB P G ops l S V) {p i:Nat} {o:Oper} (ha:At ops l p i o) (hn:¬ (turns o.op=true ∧ dm ops (S p).e o=some true)):
  (S (p+1)).σ=(S p).σ ∨ ∃ x,QB ops S p o (S p).nid x:=by
 obtain ⟨_,_,h3⟩:=h.st p i o ha
 rcases h3 with ⟨h3,h4⟩ |⟨_,_,h5⟩
 ·have ht:turns o.op=false:=by
   cases ht:turns o.op with
   |false=>rfl
   |true=>exact absurd ⟨ht,h3⟩ hn
  cases tM:aM o.op with
  |true=>
   obtain ⟨el,cs,h5,_⟩:=Pf h4 ht tM
   exact .inr ⟨_,tM,ht,h3,rfl,h5,el,cs,rfl⟩
  |false=>
   cases hl:de o.op with
   |false=>exact .inl (SX h4 ht tM hl).1
   |true=>
    left
    cases Gw:o.op<;>rw [Gw] at hl<;>first |(simp [de] at hl;done) |skip
    ·rw [Gw] at h4;exact (EZ h4).1
    ·rw [Gw] at h4;exact (Lx h4).1
 ·exact .inl h5
theorem JB.nid (h:JB P G ops l S V) {p i:Nat} {o:Oper} (ha:At ops l p i o):(S (p+1)).nid=(if aM o.op=true then (S p).nid+1 else (S p).nid):=(h.st p i o ha).2.1
theorem JB.oO (fx:∀ p,p<l.length → ∃ i o,At ops l p i o) (h:JB P G ops l S V) {p q:Nat} (hpq:p ≤ q) (hq:q ≤ l.length):(S p).nid ≤ (S q).nid:=by
 induction q with
 |zero=>
  have:p=0:=by omega
  subst this;exact Nat.le_refl _
 |succ q ih=>
  rcases Nat.lt_or_ge q p with hh |hh
  ·have:p=q+1:=by omega
   subst this;exact Nat.le_refl _
  ·obtain ⟨i,o,ha⟩:=fx q (by omega)
   have h1:=ih hh (by omega)
   have h2:=h.nid ha
   split at h2<;>omega
theorem JB.pO (fx:∀ p,p<l.length → ∃ i o,At ops l p i o) (h:JB P G ops l S V) {p q i:Nat} {o:Oper} (hpq:p<q) (hq:q ≤ l.length) (ha:At ops l p i o) (tM:aM o.op=true):(S p).nid<(S q).nid:=by
 have h1:=h.nid ha
 rw [if_pos tM] at h1
 have:=h.oO fx (show p+1 ≤ q by omega) hq
 omega
theorem JB.QH (fx:∀ p,p<l.length → ∃ i o,At ops l p i o) (h:JB P G ops l S V) {p q i i':Nat} {o o':Oper} (hpq:p≠q) (ha:At ops l p i o) (tM:aM o.op=true) (ha':At ops l q i' o') (apg:aM o'.op=true):(S p).nid≠(S q).nid:=by
 rcases Nat.lt_or_ge p q with hh |hh
 ·have:=h.pO fx hh (Nat.le_of_lt ha'.lt) ha tM;omega
 ·have:=h.pO fx (show q<p by omega) (Nat.le_of_lt ha.lt) ha' apg;omega
theorem JB.SY (fx:∀ p,p<l.length → ∃ i o,At ops l p i o) (h:JB P G ops l S V) {t p q:Nat} (hpq:p ≤ q) (hq:q ≤ l.length) (hw:∀ r i o,p ≤ r → r<q → At ops l r i o → o.dst≠some t):(S q).e t=(S p).e t ∨ (S q).e t=.u:=by
 induction q with
 |zero=>
  have:p=0:=by omega
  subst this;exact .inl rfl
 |succ q ih=>
  rcases Nat.lt_or_ge q p with hh |hh
  ·have:p=q+1:=by omega
   subst this;exact .inl rfl
  ·obtain ⟨i,o,ha⟩:=fx q (by omega)
   have jL:=hw q i o hh (by omega) ha
   have h1:=(h.st q i o ha).1 t
   have h2:((S q).e.put o.dst (V q)) t=(S q).e t:=by
    cases hd:o.dst with
    |none=>rfl
    |some d=>
     simp only [Env.put,Env.tN]
     rw [if_neg fun e=>jL (by rw [hd,e])]
   rw [h2] at h1
   rcases h1 with h1 |h1
   ·rcases ih hh (by omega) (fun r i o h1 h2=>hw r i o h1 (by omega)) with h3 |h3
    ·exact .inl (h1.trans h3)
    ·exact .inr (h1.trans h3)
   ·exact .inr h1
theorem JB.heap (fx:∀ p,p<l.length → ∃ i o,At ops l p i o) (h:JB P G ops l S V) {j p:Nat} (Z2:j ≤ p) (hp:p ≤ l.length) (hq:∀ q i o,j ≤ q → q<p → At ops l q i o → ¬ (turns o.op=true ∧ dm ops (S q).e o=some true)):
  (∀ b,(S p).σ.ai b=(S j).σ.ai b ∨ ∃ q i o x,j ≤ q ∧ q<p ∧ At ops l q i o ∧ QB ops S q o b x ∧ (S p).σ.ai b=some x) ∧
  (∀ q i o b x,j ≤ q → q<p → At ops l q i o → QB ops S q o b x → (S p).σ.ai b=some x) ∧ (S p).σ.next=(S j).σ.next:=by
 induction p with
 |zero=>
  have:j=0:=by omega
  subst this
  exact ⟨fun b=>.inl rfl,fun q i o b x _ h2=>absurd h2 (by omega),rfl⟩
 |succ p ih=>
  rcases Nat.lt_or_ge p j with hh |hh
  ·have:j=p+1:=by omega
   subst this
   exact ⟨fun b=>.inl rfl,fun q i o b x h1 h2=>absurd h2 (by omega),rfl⟩
  ·obtain ⟨i,o,ha⟩:=fx p (by omega)
   obtain ⟨h1,h2,h3⟩:=ih hh (by omega) fun q i o g1 g2=>hq q i o g1 (by omega)
   rcases h.still ha (hq p i o hh (by omega) ha) with hs |⟨x,hx⟩
   ·rw [hs]
    refine ⟨fun b=>?_,fun q i' o' b x g1 g2 g3 g4=>?_,h3⟩
    ·rcases h1 b with g |⟨q,i',o',x,g1,g2,g3,g4,g5⟩
     ·exact .inl g
     ·exact .inr ⟨q,i',o',x,g1,by omega,g3,g4,g5⟩
    ·rcases Nat.lt_or_ge q p with Vf |Vf
     ·exact h2 q i' o' b x g1 Vf g3 g4
     ·have:q=p:=by omega
      subst this
      have g5:=g4.σ
      rw [hs] at g5
      rw [g5];simp
   ·have e:=hx.σ
    refine ⟨fun b=>?_,fun q i' o' b y g1 g2 g3 g4=>?_,by rw [e];exact h3⟩
    ·by_cases hb:b=(S p).nid
     ·subst hb
      exact .inr ⟨p,i,o,x,hh,by omega,ha,hx,by rw [e];simp⟩
     ·have e':(S (p+1)).σ.ai b=(S p).σ.ai b:=by rw [e];simp [hb]
      rw [e']
      rcases h1 b with g |⟨q,i',o',y,g1,g2,g3,g4,g5⟩
      ·exact .inl g
      ·exact .inr ⟨q,i',o',y,g1,by omega,g3,g4,g5⟩
    ·rcases Nat.lt_or_ge q p with Vf |Vf
     ·have g5:=h2 q i' o' b y g1 Vf g3 g4
      have hb:b≠(S p).nid:=by
       rw [g4.id]
       exact h.QH fx (by omega) g3 g4.al ha hx.al
      rw [e];simp [hb,g5]
     ·have:q=p:=by omega
      subst this
      rw [g4.σ];simp
end run
end Go.Abs
