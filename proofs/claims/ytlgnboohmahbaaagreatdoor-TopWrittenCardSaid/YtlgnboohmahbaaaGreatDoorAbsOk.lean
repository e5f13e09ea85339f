/-
  AbsOk: how proofs about what is run are written: a run goes well, and what then holds.
-/
import Derived.Test.YtlgnboohmahbaaaGreatDoorAbsCore
set_option linter.unusedVariables false
set_option linter.unusedSimpArgs false
set_option linter.constructorNameAsVariable false
namespace Go.Abs
open Go
def Ok {A:Type} (m:Option A) (Q:A → Prop):Prop:=∃ r,m=some r ∧ Q r
theorem Ok.mono {A:Type} {m:Option A} {Q Q':A → Prop} (h:Ok m Q) (hq:∀ r,Q r → Q' r):Ok m Q':=by
 obtain ⟨r,h1,h2⟩:=h;exact ⟨r,h1,hq r h2⟩
theorem Ok.and {A:Type} {m:Option A} {Q Q':A → Prop} (h:Ok m Q) (h':Ok m Q'):Ok m fun r=>Q r ∧ Q' r:=by
 obtain ⟨r,h1,h2⟩:=h
 obtain ⟨r',h1',h2'⟩:=h'
 rw [h1] at h1';cases h1'
 exact ⟨r,h1,h2,h2'⟩
@[simp] theorem U {A:Type} {r:A} {Q:A → Prop}:Ok (some r) Q ↔ Q r:=⟨fun ⟨_,h,hq⟩=>by cases h;exact hq,fun h=>⟨r,rfl,h⟩⟩
@[simp] theorem anZ {A:Type} {Q:A → Prop}:Ok (none:Option A) Q ↔ False:=⟨fun h=>(by obtain ⟨_,h,_⟩:=h;cases h),False.elim⟩
@[simp] theorem adF {A B:Type} {m:Option A} {f:A → Option B} {Q:B → Prop}:Ok (m.bind f) Q ↔ Ok m fun a=>Ok (f a) Q:=by
 cases m with
 |none=>simp
 |some a=>simp
@[simp] theorem apH {A:Type} {c:Bool} {x y:Option A} {Q:A → Prop}:Ok (bif c then x else y) Q ↔ (if c=true then Ok x Q else Ok y Q):=by
 cases c<;>simp
theorem Ok.step {A B:Type} {m:Option A} {f:A → Option B} {Q:A → Prop} {Q':B → Prop} (h:Ok m Q) (hq:∀ r,Q r → Ok (f r) Q'):Ok (m.bind f) Q':=adF.2 (h.mono hq)
theorem Tm {A:Type} {m:Option A} {r:A} {Q:A → Prop} (h:m=some r) (hq:Q r):Ok m Q:=⟨r,h,hq⟩
@[simp] theorem Iq {S R:Type} {s:S} {f:S → Option R}:bK (some (Sum.inl s)) f=f s:=rfl
@[simp] theorem Pw {S R:Type} {r:R} {f:S → Option R}:bK (some (Sum.inr r)) f=some r:=rfl
@[simp] theorem ag2 {k:IntKind} {n:Int}:AV.ag k (.i k n)=some n:=by simp [AV.ag]
@[simp] theorem ag3 {x:Bool}:AV.aV (.b x)=some x:=rfl
@[simp] theorem ag4 {x:List UInt8}:AV.dV (.s x)=some x:=rfl
@[simp] theorem ag5 {x:Option (jJ × Nat)}:AV.aT (.p x)=some x:=rfl
@[simp] theorem aaJ {x:Option (jJ × Nat)}:AV.lN (.p x)=x:=rfl
@[simp] theorem Xt {a:SA} {n:Nat}:AV.aG (.sl a n)=some (a,n):=rfl
theorem Ok.bK {S R:Type} {m:Option (S ⊕ R)} {f:S → Option R} {Q:S ⊕ R → Prop} {Q':R → Prop} (h:Ok m Q) (h1:∀ s,Q (.inl s) → Ok (f s) Q') (h2:∀ r,Q (.inr r) → Q' r):Ok (bK m f) Q':=by
 obtain ⟨r,e,hq⟩:=h
 subst e
 cases r with
 |inl s=>exact h1 s hq
 |inr r=>exact ⟨r,rfl,h2 r hq⟩
section loop
variable {S T:Type} {f:S → Option (S ⊕ T)}
theorem Fi:∀ {n:Nat} {s:S} {t:T},iF f n s=some t → ∀ {m:Nat},n ≤ m → iF f m s=some t
 |0,s,t,h,m,_=>by cases h
 |n+1,s,t,h,m,hm=>by
  cases m with
  |zero=>omega
  |succ m=>
   simp only [iF] at h ⊢
   cases hf:f s with
   |none=>rw [hf] at h;cases h
   |some r=>
    rw [hf] at h
    cases r with
    |inl s'=>exact Fi (n:=n) h (by omega)
    |inr t'=>exact h
theorem Px {n m:Nat} {s:S} {t t':T} (h:iF f n s=some t) (h':iF f m s=some t'):t=t':=by
 have h3:=Fi h (Nat.le_max_left n m)
 rw [Fi h' (Nat.le_max_right n m)] at h3
 exact (Option.some.inj h3).symm
theorem BK {n:Nat} {s:S} {t:T} (h:iF f n s=some t):aQ f s=some t:=by
 have hex:∃ n t,iF f n s=some t:=⟨n,t,h⟩
 unfold aQ
 split
 ·rename_i t' h'
  rw [Px h h']
 ·rw [dif_pos hex,Px h (Classical.choose_spec (Classical.choose_spec hex))]
theorem Fj {s:S} (h:¬ ∃ n t,iF f n s=some t):aQ f s=none:=by
 unfold aQ
 split
 ·rename_i t' h'
  exact absurd ⟨_,_,h'⟩ h
 ·rw [dif_neg h]
theorem Py {s:S} {t:T} (h:f s=some (.inr t)):aQ f s=some t:=BK (n:=1) (by simp [iF,h,bK])
theorem Pz {s s':S} (h:f s=some (.inl s')):aQ f s=aQ f s':=by
 by_cases hex:∃ n t,iF f n s'=some t
 ·obtain ⟨n,t,hn⟩:=hex
  rw [BK hn]
  exact BK (n:=n+1) (by simp [iF,h,hn])
 ·have h1:¬ ∃ n t,iF f n s=some t:=by
   rintro ⟨n,t,hn⟩
   cases n with
   |zero=>cases hn
   |succ n=>simp only [iF,h,Iq] at hn;exact hex ⟨n,t,hn⟩
  rw [Fj hex,Fj h1]
theorem Tn (s:S):aQ f s=bK (f s) (aQ f):=by
 cases h:f s with
 |none=>
  have:¬ ∃ n t,iF f n s=some t:=by
   rintro ⟨n,t,hn⟩
   cases n with
   |zero=>cases hn
   |succ n=>simp only [iF,h] at hn;cases hn
  rw [Fj this];rfl
 |some r=>
  cases r with
  |inl s'=>exact Pz h
  |inr t=>exact Py h
theorem Ok.loop {Q:T → Prop} (I:Nat → S → Prop) (Pl:∀ n s,I n s → Ok (f s) fun r=>match r with |.inl s'=>∃ m,m<n ∧ I m s' | .inr t=>Q t):∀ (n:Nat) (s:S),I n s → Ok (aQ f s) Q:=by
 intro n
 induction n using Nat.strongRecOn with
 |_ n ih=>
  intro s hI
  obtain ⟨r,h1,h2⟩:=Pl n s hI
  cases r with
  |inl s'=>
   obtain ⟨m,hm,hI'⟩:=h2
   rw [Pz h1]
   exact ih m hm s' hI'
  |inr t=>rw [Py h1];exact ⟨t,rfl,h2⟩
theorem Ok.count {Q:T → Prop} (N:Nat) (I:Nat → S → Prop) (Pl:∀ k s,k<N → I k s → Ok (f s) fun r=>match r with |.inl s'=>I (k+1) s' | .inr t=>Q t)
  (apI:∀ s,I N s → Ok (f s) fun r=>match r with |.inl _=>False |.inr t=>Q t) {s:S} (h0:I 0 s):Ok (aQ f s) Q:=by
 refine Ok.loop (fun n s=>n ≤ N ∧ I (N - n) s) (fun n s hI=>?_) N s ⟨Nat.le_refl _,by rw [Nat.sub_self];exact h0⟩
 obtain ⟨hn,hI⟩:=hI
 cases n with
 |zero=>
  refine (apI s (by simpa using hI)).mono fun r hr=>?_
  cases r with
  |inl s'=>exact hr.elim
  |inr t=>exact hr
 |succ n=>
  refine (Pl _ s (by omega) hI).mono fun r hr=>?_
  cases r with
  |inl s'=>exact ⟨n,by omega,by omega,by rw [show N - n=N - (n+1)+1 by omega];exact hr⟩
  |inr t=>exact hr
end loop
section heap
variable {O:Type}
@[simp] theorem Gz {σ:AH O} {b q:Nat} {x:oM O}:(σ.put b x).ai q=if q=b then some x else σ.ai q:=by
 simp only [AH.put];by_cases h:q=b
 ·subst h;simp
 ·have:Nat.beq q b=false:=by cases hh:Nat.beq q b with |false=>rfl |true=>exact absurd (Nat.eq_of_beq_eq_true hh) h
  simp [this,h]
@[simp] theorem lS {σ:AH O} {b q:Nat}:(σ.kill b).ai q=if q=b then none else σ.ai q:=by
 simp only [AH.kill];by_cases h:q=b
 ·subst h;simp
 ·have:Nat.beq q b=false:=by cases hh:Nat.beq q b with |false=>rfl |true=>exact absurd (Nat.eq_of_beq_eq_true hh) h
  simp [this,h]
@[simp] theorem bd {σ:AH O} {k q:Nat}:(σ.bump k).ai q=σ.ai q:=rfl
@[simp] theorem gK {σ:AH O} {b:Nat} {x:oM O}:(σ.put b x).next=σ.next:=rfl
@[simp] theorem gR {σ:AH O} {b:Nat}:(σ.kill b).next=σ.next:=rfl
@[simp] theorem bg {σ:AH O} {k:Nat}:(σ.bump k).next=σ.next+k:=rfl
structure Ext (σ aj:AH O):Prop where
 next:σ.next ≤ aj.next
 ai:∀ b,b<σ.next → aj.ai b=σ.ai b
theorem Ext.refl (σ:AH O):Ext σ σ:=⟨Nat.le_refl _,fun _ _=>rfl⟩
theorem Ext.trans {σ aj oS:AH O} (h:Ext σ aj) (h':Ext aj oS):Ext σ oS:=
 ⟨Nat.le_trans h.next h'.next,fun b hb=>(h'.ai b (Nat.lt_of_lt_of_le hb h.next)).trans (h.ai b hb)⟩
theorem Ext.bump {σ aj:AH O} (h:Ext σ aj) (k:Nat):Ext σ (aj.bump k):=⟨by simp;have:=h.next;omega,fun b hb=>h.ai b hb⟩
theorem Ext.put {σ aj:AH O} (h:Ext σ aj) {b:Nat} (hb:σ.next ≤ b) (x:oM O):Ext σ (aj.put b x):=
 ⟨h.next,fun c hc=>by rw [Gz,if_neg (by omega)];exact h.ai c hc⟩
theorem Ext.kill {σ aj:AH O} (h:Ext σ aj) {b:Nat} (hb:σ.next ≤ b):Ext σ (aj.kill b):=
 ⟨h.next,fun c hc=>by rw [lS,if_neg (by omega)];exact h.ai c hc⟩
end heap
end Go.Abs
