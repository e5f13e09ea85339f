/-
  AbsOk: how proofs about what is run are written: a run goes well, and what then holds.
-/
import Derived.Test.YtncohicmiihjiaaGreatAbsCore
set_option linter.unusedVariables false
set_option linter.unusedSimpArgs false
set_option linter.constructorNameAsVariable false
namespace Go.Abs
open Go
def Ok {A:Type} (m:Option A) (Q:A->Prop):Prop:=∃ r,m=some r/\Q r
theorem Ok.mono {A:Type} {m:Option A} {Q Q':A->Prop} (h:Ok m Q) (hq:∀ r,Q r->Q' r):Ok m Q':=by
 obtain ⟨r,h1,h2⟩:=h;exact ⟨r,h1,hq r h2⟩
theorem Ok.and {A:Type} {m:Option A} {Q Q':A->Prop} (h:Ok m Q) (h':Ok m Q'):Ok m fun r=>Q r/\Q' r:=by
 obtain ⟨r,h1,h2⟩:=h
 obtain ⟨r',Wd,h2'⟩:=h'
 rw [h1] at Wd;cases Wd
 exact ⟨r,h1,h2,h2'⟩
@[simp] theorem U {A:Type} {r:A} {Q:A->Prop}:Ok (some r) Q ↔ Q r:=⟨fun ⟨_,h,hq⟩=>by cases h;exact hq,fun h=>⟨r,rfl,h⟩⟩
@[simp] theorem acg {A:Type} {Q:A->Prop}:Ok (none:Option A) Q ↔ False:=⟨fun h=>(by obtain ⟨_,h,_⟩:=h;cases h),False.elim⟩
@[simp] theorem MT {A B:Type} {m:Option A} {f:A->Option B} {Q:B->Prop}:Ok (m.bind f) Q ↔ Ok m fun a=>Ok (f a) Q:=by
 cases m with
 |none=>simp
 |some a=>simp
@[simp] theorem afX {A:Type} {c:Bool} {x y:Option A} {Q:A->Prop}:Ok (bif c then x else y) Q ↔ (if c=true then Ok x Q else Ok y Q):=by
 cases c<;>simp
theorem Ok.step {A B:Type} {m:Option A} {f:A->Option B} {Q:A->Prop} {Q':B->Prop} (h:Ok m Q) (hq:∀ r,Q r->Ok (f r) Q'):Ok (m.bind f) Q':=MT.2 (h.mono hq)
theorem nR {A:Type} {m:Option A} {r:A} {Q:A->Prop} (h:m=some r) (hq:Q r):Ok m Q:=⟨r,h,hq⟩
@[simp] theorem cH {S R:Type} {s:S} {f:S->Option R}:cv (some (Sum.inl s)) f=f s:=rfl
@[simp] theorem eG {S R:Type} {r:R} {f:S->Option R}:cv (some (Sum.inr r)) f=some r:=rfl
@[simp] theorem PU {k:IntKind} {n:Int}:AV.aX k (.i k n)=some n:=by simp [AV.aX]
@[simp] theorem PW {x:Bool}:AV.aZ (.b x)=some x:=rfl
@[simp] theorem PX {x:List UInt8}:AV.Rx (.s x)=some x:=rfl
@[simp] theorem PY {x:Option (fH × Nat)}:AV.bD (.p x)=some x:=rfl
@[simp] theorem Iu {x:Option (fH × Nat)}:AV.kC (.p x)=x:=rfl
@[simp] theorem Ec {a:SA} {n:Nat}:AV.dF (.sl a n)=some (a,n):=rfl
theorem Ok.cv {S R:Type} {m:Option (S ⊕ R)} {f:S->Option R} {Q:S ⊕ R->Prop} {Q':R->Prop} (h:Ok m Q) (h1:∀ s,Q (.inl s)->Ok (f s) Q') (h2:∀ r,Q (.inr r)->Q' r):Ok (cv m f) Q':=by
 obtain ⟨r,e,hq⟩:=h
 subst e
 cases r with
 |inl s=>exact h1 s hq
 |inr r=>exact ⟨r,rfl,h2 r hq⟩
section loop
variable {S T:Type} {f:S->Option (S ⊕ T)}
theorem oI:∀ {n:Nat} {s:S} {t:T},fB f n s=some t->∀ {m:Nat},n<=m->fB f m s=some t
 |0,s,t,h,m,_=>by cases h
 |n+1,s,t,h,m,hm=>by
  cases m with
  |zero=>omega
  |succ m=>
   simp only [fB] at h ⊢
   cases hf:f s with
   |none=>rw [hf] at h;cases h
   |some r=>
    rw [hf] at h
    cases r with
    |inl s'=>exact oI (n:=n) h (by omega)
    |inr t'=>exact h
theorem wT {n m:Nat} {s:S} {t t':T} (h:fB f n s=some t) (h':fB f m s=some t'):t=t':=by
 have h3:=oI h (Nat.le_max_left n m)
 rw [oI h' (Nat.le_max_right n m)] at h3
 exact (Option.some.inj h3).symm
theorem uo {n:Nat} {s:S} {t:T} (h:fB f n s=some t):bC f s=some t:=by
 have hex:∃ n t,fB f n s=some t:=⟨n,t,h⟩
 unfold bC
 split
 ·rename_i t' h'
  rw [wT h h']
 ·rw [dif_pos hex,wT h (Classical.choose_spec (Classical.choose_spec hex))]
theorem oJ {s:S} (h:¬ ∃ n t,fB f n s=some t):bC f s=none:=by
 unfold bC
 split
 ·rename_i t' h'
  exact absurd ⟨_,_,h'⟩ h
 ·rw [dif_neg h]
theorem kc {s:S} {t:T} (h:f s=some (.inr t)):bC f s=some t:=uo (n:=1) (by simp [fB,h,cv])
theorem wU {s s':S} (h:f s=some (.inl s')):bC f s=bC f s':=by
 by_cases hex:∃ n t,fB f n s'=some t
 ·obtain ⟨n,t,hn⟩:=hex
  rw [uo hn]
  exact uo (n:=n+1) (by simp [fB,h,hn])
 ·have h1:¬ ∃ n t,fB f n s=some t:=by
   rintro ⟨n,t,hn⟩
   cases n with
   |zero=>cases hn
   |succ n=>simp only [fB,h,cH] at hn;exact hex ⟨n,t,hn⟩
  rw [oJ hex,oJ h1]
theorem ur (s:S):bC f s=cv (f s) (bC f):=by
 cases h:f s with
 |none=>
  have:¬ ∃ n t,fB f n s=some t:=by
   rintro ⟨n,t,hn⟩
   cases n with
   |zero=>cases hn
   |succ n=>simp only [fB,h] at hn;cases hn
  rw [oJ this];rfl
 |some r=>
  cases r with
  |inl s'=>exact wU h
  |inr t=>exact kc h
theorem Ok.loop {Q:T->Prop} (I:Nat->S->Prop) (pJ:∀ n s,I n s->Ok (f s) fun r=>match r with |.inl s'=>∃ m,m<n/\I m s' | .inr t=>Q t):∀ (n:Nat) (s:S),I n s->Ok (bC f s) Q:=by
 intro n
 induction n using Nat.strongRecOn with
 |_ n ih=>
  intro s hI
  obtain ⟨r,h1,h2⟩:=pJ n s hI
  cases r with
  |inl s'=>
   obtain ⟨m,hm,hI'⟩:=h2
   rw [wU h1]
   exact ih m hm s' hI'
  |inr t=>rw [kc h1];exact ⟨t,rfl,h2⟩
theorem Ok.count {Q:T->Prop} (N:Nat) (I:Nat->S->Prop) (pJ:∀ k s,k<N->I k s->Ok (f s) fun r=>match r with |.inl s'=>I (k+1) s' | .inr t=>Q t)
  (afY:∀ s,I N s->Ok (f s) fun r=>match r with |.inl _=>False |.inr t=>Q t) {s:S} (h0:I 0 s):Ok (bC f s) Q:=by
 refine Ok.loop (fun n s=>n<=N/\I (N - n) s) (fun n s hI=>?_) N s ⟨Nat.le_refl _,by rw [Nat.sub_self];exact h0⟩
 obtain ⟨hn,hI⟩:=hI
 cases n with
 |zero=>
  refine (afY s (by simpa using hI)).mono fun r hr=>?_
  cases r with
  |inl s'=>exact hr.elim
  |inr t=>exact hr
 |succ n=>
  refine (pJ _ s (by omega) hI).mono fun r hr=>?_
  cases r with
  |inl s'=>exact ⟨n,by omega,by omega,by rw [show N - n=N - (n+1)+1 by omega];exact hr⟩
  |inr t=>exact hr
end loop
section heap
variable {O:Type}
@[simp] theorem pI {J:AH O} {b q:Nat} {x:eY O}:(J.put b x).aa q=if q=b then some x else J.aa q:=by
 simp only [AH.put];by_cases h:q=b
 ·subst h;simp
 ·have:Nat.beq q b=false:=by cases hh:Nat.beq q b with |false=>rfl |true=>exact absurd (Nat.eq_of_beq_eq_true hh) h
  simp [this,h]
@[simp] theorem gL {J:AH O} {b q:Nat}:(J.kill b).aa q=if q=b then none else J.aa q:=by
 simp only [AH.kill];by_cases h:q=b
 ·subst h;simp
 ·have:Nat.beq q b=false:=by cases hh:Nat.beq q b with |false=>rfl |true=>exact absurd (Nat.eq_of_beq_eq_true hh) h
  simp [this,h]
@[simp] theorem au {J:AH O} {k q:Nat}:(J.az k).aa q=J.aa q:=rfl
@[simp] theorem bR {J:AH O} {b:Nat} {x:eY O}:(J.put b x).next=J.next:=rfl
@[simp] theorem dd {J:AH O} {b:Nat}:(J.kill b).next=J.next:=rfl
@[simp] theorem cI {J:AH O} {k:Nat}:(J.az k).next=J.next+k:=rfl
structure Ext (J J':AH O):Prop where
 next:J.next<=J'.next
 aa:∀ b,b<J.next->J'.aa b=J.aa b
theorem Ext.refl (J:AH O):Ext J J:=⟨Nat.le_refl _,fun _ _=>rfl⟩
theorem Ext.trans {J J' nS:AH O} (h:Ext J J') (h':Ext J' nS):Ext J nS:=
 ⟨Nat.le_trans h.next h'.next,fun b hb=>(h'.aa b (Nat.lt_of_lt_of_le hb h.next)).trans (h.aa b hb)⟩
theorem Ext.az {J J':AH O} (h:Ext J J') (k:Nat):Ext J (J'.az k):=⟨by simp;have:=h.next;omega,fun b hb=>h.aa b hb⟩
theorem Ext.put {J J':AH O} (h:Ext J J') {b:Nat} (hb:J.next<=b) (x:eY O):Ext J (J'.put b x):=
 ⟨h.next,fun c hc=>by rw [pI,if_neg (by omega)];exact h.aa c hc⟩
theorem Ext.kill {J J':AH O} (h:Ext J J') {b:Nat} (hb:J.next<=b):Ext J (J'.kill b):=
 ⟨h.next,fun c hc=>by rw [gL,if_neg (by omega)];exact h.aa c hc⟩
end heap
end Go.Abs
