/-
  AbsDraw4: one operation of a drawn region, in any order.
-/
import Derived.Test.YtlgnboohmahbaaaGreatDoorAbsDraw3
set_option linter.unusedVariables false
set_option linter.unusedSimpArgs false
set_option linter.constructorNameAsVariable false
namespace Go.Abs
open Go
variable {O:Type} {RO:O → Loc → (Nat → Option Obj) → Prop} {P:Program} {G:List (Nat × Sm O)} {n:Nat}
abbrev rJ (listed:Array Bool) (i:Nat):Prop:=listed.getD i false=true
structure Ym (ops:List Oper) (l:List Nat) (S:Nat → RS O) (n:Nat) (a0:Act) (listed:Array Bool) (a:Act) (ρ:cl):Prop where
 SV:listed.size=ops.length
 closed:E' ops (rJ listed)
 size:a.tmps.size=n
 cf:∀ t m,m ≤ l.length → (∀ q i o,q<m → At ops l q i o → o.dst=some t → rJ listed i) → (∀ q i o,m ≤ q → At ops l q i o → o.dst=some t → ¬ rJ listed i) → aI ρ ((S m).e t) (a.tmps.getD t undef)
 defers:a.defers=a0.defers
 out:∀ t,t∉dstsOf ops → a.tmps.getD t undef=a0.tmps.getD t undef
structure Ah (RO:O → Loc → (Nat → Option Obj) → Prop) (P:Program) (ops:List Oper) (l:List Nat) (S:Nat → RS O) (yc:cl) (fp0:Fp) (gJ:AH O) (w0:World) (listed:Array Bool) (w:World) (ρ:cl) (fp:Fp) (cB:AH O) (j:Nat):Prop where
 jle:j ≤ l.length
 jz:j=0 ∨ ∃ k i o,j=k+1 ∧ At ops l k i o ∧ rJ listed i ∧ turns o.op=true ∧ dm ops (S k).e o=some true
 late:∀ q i o,j ≤ q → At ops l q i o → rJ listed i → ¬ (turns o.op=true ∧ dm ops (S q).e o=some true)
 post:aO RO P (· < (S 0).nid) yc fp0 gJ w0 ρ fp cB w
 nx:cB.next=(S j).σ.next
 pe:∀ q i o b x,j ≤ q → At ops l q i o → rJ listed i → QB ops S q o b x → cB.ai b=some x
 od:∀ b,cB.ai b=(S j).σ.ai b ∨ ∃ q i o x,j ≤ q ∧ At ops l q i o ∧ rJ listed i ∧ QB ops S q o b x
 bl:∀ b,(S j).nid ≤ b → b<(S l.length).nid → (S j).σ.ai b=none
 nr:∀ q i o,At ops l q i o → ¬ rJ listed i → aM o.op=true → ρ (S q).nid=none
 top:(S l.length).nid ≤ (S j).σ.next
section step
variable {ops:List Oper} {l:List Nat} {S:Nat → RS O} {V:Nat → AV} {a0:Act} {yc:cl} {fp0:Fp} {gJ:AH O} {w0:World} {listed:Array Bool}
theorem dQ {i k:Nat} (bS:i<listed.size):rJ (listed.setIfInBounds i true) k ↔ k=i ∨ rJ listed k:=by
 unfold rJ
 by_cases h:i=k
 ·subst h
  simp [bS]
 ·rw [getD_set_ne false h]
  constructor
  ·exact .inr
  ·rintro (h' | h')
   ·exact absurd h'.symm h
   ·exact h'
theorem rJ.lt {ops:List Oper} {listed:Array Bool} (hl:listed.size=ops.length) {i:Nat} (h:rJ listed i):i<ops.length:=by
 rw [← hl]
 rcases Nat.lt_or_ge i listed.size with hh |hh
 ·exact hh
 ·simp [rJ,Array.getElem?_eq_none hh] at h
theorem Ym.Xf (fx:∀ p,p<l.length → ∃ i o,At ops l p i o) (hr:JB P G ops l S V) {a:Act} {ρ:cl} (h:Ym ops l S n a0 listed a ρ) {p i:Nat} {o:Oper} (ha:At ops l p i o) (hnd:¬ rJ listed i) (SU:∀ e∈o.after,Region.binds .any e=true → rJ listed e.on)
  {t:Nat} (ht:t∈looks ops o):aI ρ ((S p).e t) (a.tmps.getD t undef):=by
 have hD:∀ i,rJ listed i → i<ops.length:=fun i hi=>rJ.lt h.SV hi
 refine h.cf t p (Nat.le_of_lt ha.lt) (fun q i' o' hq hb hd=>?_) (fun q i' o' hq hb hd akK=>?_)
 ·have hp:=hr.Vc.pair q p i' i o' o hq hb ha
  rcases hp.or with g |⟨g,_⟩
  ·exact Ia h.closed hD ha.2 SU g
  ·exact absurd ht ((BB g).1 t hd).1
 ·by_cases hpq:q=p
  ·subst hpq
   obtain ⟨rfl,rfl⟩:=ha.fn hb
   exact hnd akK
  ·have hp:=hr.Vc.pair p q i i' o o' (by omega) ha hb
   rcases hp.or with g |⟨g,_⟩
   ·exact hnd (h.closed.kE hD i' i akK g)
   ·exact absurd ht ((BB g).2 t hd)
theorem Ym.next (fx:∀ p,p<l.length → ∃ i o,At ops l p i o) (hr:JB P G ops l S V) (oN:∀ (i:Nat) (o:Oper) (d:Nat),ops[i]? = some o → o.dst=some d → d<n) {a:Act} {ρ aR:cl} (h:Ym ops l S n a0 listed a ρ) {p i:Nat} {o:Oper} (ha:At ops l p i o) (hnd:¬ rJ listed i)
  (SU:∀ e∈o.after,Region.binds .any e=true → rJ listed e.on) (hle:ρ.le aR) {u:Value} (hu:aI aR (V p) u):Ym ops l S n a0 (listed.setIfInBounds i true) (a.put o.dst u) aR:=by
 have hD:∀ i,rJ listed i → i<ops.length:=fun i hi=>rJ.lt h.SV hi
 have bS:i<listed.size:=by rw [h.SV];exact (List.getElem?_eq_some_iff.1 ha.2).1
 refine ⟨by simp [h.SV],fun k ok hk hdk e he hb=>?_,by cases o.dst<;>simp [Act.put,h.size],fun t m hm h1 h2=>?_,by rw [← h.defers];cases o.dst<;>rfl,fun t ht=>?_⟩
 ·rw [dQ bS] at hdk ⊢
  rcases hdk with rfl |hdk
  ·rw [ha.2] at hk;cases hk
   exact .inr (SU e he hb)
  ·exact .inr (h.closed k ok hk hdk e he hb)
 ·by_cases hd:o.dst=some t
  ·have hpm:p<m:=by
    rcases Nat.lt_or_ge p m with hh |hh
    ·exact hh
    ·exact absurd ((dQ bS).2 (.inl rfl)) (h2 p i o hh ha hd)
   have hv:aI aR ((S (p+1)).e t) u:=by
    have:=(hr.st p i o ha).1 t
    rw [hd] at this
    simp only [Env.put,Env.tN,if_true] at this
    rcases this with g |g<;>rw [g]
    ·exact hu
    ·exact .u _
   have hav:(a.put o.dst u).tmps.getD t undef=u:=by
    have:=oN i o t ha.2 hd
    rw [← h.size] at this
    rw [hd]
    simp [Act.put,this]
   rw [hav]
   rcases hr.SY fx (t:=t) (show p+1 ≤ m by omega) hm fun r i' o' g1 g2 g3 g4=>by
    have h3:=(dQ bS).1 (h1 r i' o' g2 g3 g4)
    have hp:=hr.Vc.pair p r i i' o o' (by omega) ha g3
    rcases h3 with rfl |h3
    ·exact hp.ne rfl
    ·rcases hp.or with g |⟨g,_⟩
     ·exact hnd (h.closed.kE hD i' i h3 g)
     ·exact ((BB g).1 t hd).2 g4
    with g |g<;>rw [g]
   ·exact hv
   ·exact .u _
  ·have hav:(a.put o.dst u).tmps.getD t undef=a.tmps.getD t undef:=wv (fun d xZ e=>hd (by rw [xZ,e])) u
   rw [hav]
   refine (h.cf t m hm (fun q i' o' g1 g2 g3=>?_) (fun q i' o' g1 g2 g3 g4=>h2 q i' o' g1 g2 g3 ((dQ bS).2 (.inr g4)))).mono hle
   rcases (dQ bS).1 (h1 q i' o' g1 g2 g3) with rfl |g
   ·obtain rfl:q=p:=At.inj hr.Vc g2 ha
    obtain ⟨_,rfl⟩:=g2.fn ha
    exact absurd g3 hd
   ·exact g
 ·rw [← h.out t ht]
  exact wv (fun d hd e=>ht (by rw [e];exact yd ha.2 hd)) u
theorem Ah.ge (fx:∀ p,p<l.length → ∃ i o,At ops l p i o) (hr:JB P G ops l S V) {w:World} {ρ:cl} {fp:Fp} {cB:AH O} {j:Nat} (h:Ah RO P ops l S yc fp0 gJ w0 listed w ρ fp cB j) (Jy:E' ops (rJ listed)) (qX:listed.size=ops.length)
  {p i:Nat} {o:Oper} (ha:At ops l p i o) (hnd:¬ rJ listed i) (ht:turns o.op=true ∨ aM o.op=true):j ≤ p:=by
 rcases h.jz with hj |⟨k,i',o',hj,hb,hd,Km,_⟩
 ·omega
 ·rcases Nat.lt_or_ge p j with hh |hh
  ·have jL:p≠k:=fun e=>by
    subst e
    obtain ⟨rfl,rfl⟩:=ha.fn hb
    exact hnd hd
   have hp:=hr.Vc.pair p k i i' o o' (by omega) ha hb
   rcases hp.or with g |⟨_,g1,g2⟩
   ·exact absurd (Jy.kE (fun i hi=>rJ.lt qX hi) i' i hd g) hnd
   ·cases htt:turns o.op with
    |true=>have:=(g1 htt).1;rw [Km] at this;cases this
    |false=>
     rw [htt] at ht
     rcases ht with ht |ht
     ·cases ht
     ·have:=g2 ht htt;rw [Km] at this;cases this
  ·exact hh
theorem Ah.nr' (fx:∀ p,p<l.length → ∃ i o,At ops l p i o) (hr:JB P G ops l S V) {w w':World} {ρ aR:cl} {fp fp':Fp} {cB SW:AH O} {j:Nat} (h:Ah RO P ops l S yc fp0 gJ w0 listed w ρ fp cB j) (qX:listed.size=ops.length) {p i:Nat} {o:Oper} (ha:At ops l p i o)
  (hp:aO RO P (fun b=>b<cB.next ∧ (aM o.op=true → b≠(S p).nid)) ρ fp cB w aR fp' SW w'):
  ∀ q i' o',At ops l q i' o' → ¬ rJ (listed.setIfInBounds i true) i' → aM o'.op=true → aR (S q).nid=none:=fun q i' o' g1 g2 g3=>by
 have bS:i<listed.size:=by rw [qX];exact (List.getElem?_eq_some_iff.1 ha.2).1
 rw [dQ bS] at g2
 have Vf:q≠p:=fun e=>by subst e;exact g2 (.inl (g1.fn ha).1)
 rw [hp.ext _ ⟨by
  have:=hr.pO fx g1.lt (Nat.le_refl _) g1 g3
  rw [h.nx];have:=h.top;omega,fun tM=>hr.QH fx Vf g1 g3 ha tM⟩]
 exact h.nr q i' o' g1 (fun e=>g2 (.inr e)) g3
theorem Ah.aar (fx:∀ p,p<l.length → ∃ i o,At ops l p i o) (hr:JB P G ops l S V) {w w':World} {ρ aR:cl} {fp fp':Fp} {cB SW:AH O} {j:Nat} (h:Ah RO P ops l S yc fp0 gJ w0 listed w ρ fp cB j) {p i:Nat} {o:Oper} (ha:At ops l p i o)
  (hp:aO RO P (fun b=>b<cB.next ∧ (aM o.op=true → b≠(S p).nid)) ρ fp cB w aR fp' SW w'):aO RO P (· < (S 0).nid) yc fp0 gJ w0 aR fp' SW w':=
 h.post.trans (hp.mono fun b (hb:b<(S 0).nid)=>by
  have h1:=hr.oO fx (Nat.zero_le p) (Nat.le_of_lt ha.lt)
  have h2:=hr.oO fx (Nat.zero_le l.length) (Nat.le_refl _)
  have h3:=h.top
  exact ⟨by rw [h.nx];omega,fun _=>by omega⟩)
theorem Ah.same (fx:∀ p,p<l.length → ∃ i o,At ops l p i o) (hr:JB P G ops l S V) {w w':World} {ρ aR:cl} {fp fp':Fp} {cB:AH O} {j:Nat} (h:Ah RO P ops l S yc fp0 gJ w0 listed w ρ fp cB j) (qX:listed.size=ops.length) {p i:Nat} {o:Oper} (ha:At ops l p i o)
  (hn:¬ (turns o.op=true ∧ dm ops (S p).e o=some true)) (hna:∀ b x,¬ QB ops S p o b x) (hp:aO RO P (fun b=>b<cB.next ∧ (aM o.op=true → b≠(S p).nid)) ρ fp cB w aR fp' cB w'):
  Ah RO P ops l S yc fp0 gJ w0 (listed.setIfInBounds i true) w' aR fp' cB j:=by
 have bS:i<listed.size:=by rw [qX];exact (List.getElem?_eq_some_iff.1 ha.2).1
 refine ⟨h.jle,?_,fun q i' o' h1 h2 h3=>?_,h.aar fx hr ha hp,h.nx,fun q i' o' b x h1 h2 h3 h4=>?_,fun b=>?_,h.bl,h.nr' fx hr qX ha hp,h.top⟩
 ·rcases h.jz with hj |⟨k,i',o',hj,hb,hd,Km,g⟩
  ·exact .inl hj
  ·exact .inr ⟨k,i',o',hj,hb,(dQ bS).2 (.inr hd),Km,g⟩
 ·rcases (dQ bS).1 h3 with rfl |h3
  ·obtain rfl:q=p:=At.inj hr.Vc h2 ha
   obtain ⟨_,rfl⟩:=h2.fn ha
   exact hn
  ·exact h.late q i' o' h1 h2 h3
 ·rcases (dQ bS).1 h3 with rfl |h3
  ·obtain rfl:q=p:=At.inj hr.Vc h2 ha
   obtain ⟨_,rfl⟩:=h2.fn ha
   exact absurd h4 (hna b x)
  ·exact h.pe q i' o' b x h1 h2 h3 h4
 ·rcases h.od b with g |⟨q,i',o',x,g1,g2,g3,g4⟩
  ·exact .inl g
  ·exact .inr ⟨q,i',o',x,g1,g2,(dQ bS).2 (.inr g3),g4⟩
theorem Ah.alloc (fx:∀ p,p<l.length → ∃ i o,At ops l p i o) (hr:JB P G ops l S V) {w w':World} {ρ aR:cl} {fp fp':Fp} {cB:AH O} {j:Nat} (h:Ah RO P ops l S yc fp0 gJ w0 listed w ρ fp cB j) (Jy:E' ops (rJ listed)) (qX:listed.size=ops.length) {p i:Nat} {o:Oper} (ha:At ops l p i o) (hnd:¬ rJ listed i)
  {x:oM O} (hx:QB ops S p o (S p).nid x) (hp:aO RO P (fun b=>b<cB.next ∧ (aM o.op=true → b≠(S p).nid)) ρ fp cB w aR fp' (cB.put (S p).nid x) w'):
  Ah RO P ops l S yc fp0 gJ w0 (listed.setIfInBounds i true) w' aR fp' (cB.put (S p).nid x) j:=by
 have bS:i<listed.size:=by rw [qX];exact (List.getElem?_eq_some_iff.1 ha.2).1
 have Z2:j ≤ p:=h.ge fx hr Jy qX ha hnd (.inr hx.al)
 refine ⟨h.jle,?_,fun q i' o' h1 h2 h3=>?_,h.aar fx hr ha hp,h.nx,fun q i' o' b y h1 h2 h3 h4=>?_,fun b=>?_,h.bl,h.nr' fx hr qX ha hp,h.top⟩
 ·rcases h.jz with hj |⟨k,i',o',hj,hb,hd,Km,g⟩
  ·exact .inl hj
  ·exact .inr ⟨k,i',o',hj,hb,(dQ bS).2 (.inr hd),Km,g⟩
 ·rcases (dQ bS).1 h3 with rfl |h3
  ·obtain rfl:q=p:=At.inj hr.Vc h2 ha
   obtain ⟨_,rfl⟩:=h2.fn ha
   rintro ⟨g,_⟩
   rw [hx.nt] at g;cases g
  ·exact h.late q i' o' h1 h2 h3
 ·by_cases Vf:q=p
  ·subst Vf
   obtain ⟨_,rfl⟩:=h2.fn ha
   have e:=h4.id
   subst e
   have e1:(S (q+1)).σ.ai (S q).nid=some y:=by rw [h4.σ];simp
   have e2:(S (q+1)).σ.ai (S q).nid=some x:=by rw [hx.σ];simp
   rw [e1] at e2;cases e2
   simp
  ·have jL:=hr.QH fx Vf h2 h4.al ha hx.al
   rw [← h4.id] at jL
   rcases (dQ bS).1 h3 with rfl |h3
   ·exact absurd (At.inj hr.Vc h2 ha) Vf
   ·simp only [AH.Gz,jL,if_false]
    exact h.pe q i' o' b y h1 h2 h3 h4
 ·by_cases hb:b=(S p).nid
  ·subst hb
   exact .inr ⟨p,i,o,x,Z2,ha,(dQ bS).2 (.inl rfl),hx⟩
  ·simp only [AH.Gz,hb,if_false]
   rcases h.od b with g |⟨q,i',o',y,g1,g2,g3,g4⟩
   ·exact .inl g
   ·exact .inr ⟨q,i',o',y,g1,g2,(dQ bS).2 (.inr g3),g4⟩
theorem Ah.sub (fx:∀ p,p<l.length → ∃ i o,At ops l p i o) (hr:JB P G ops l S V) {w:World} {ρ:cl} {fp:Fp} {cB:AH O} {j:Nat} (h:Ah RO P ops l S yc fp0 gJ w0 listed w ρ fp cB j) {p:Nat} (Z2:j ≤ p) (Dk:p ≤ l.length)
  (hq:∀ q i o,j ≤ q → q<p → At ops l q i o → ¬ (turns o.op=true ∧ dm ops (S q).e o=some true)) {b:Nat} {x:oM O} (hx:(S p).σ.ai b=some x)
  (hd:∀ q i o,j ≤ q → q<p → At ops l q i o → b=(S q).nid → aM o.op=true → turns o.op=false → rJ listed i):cB.ai b=some x:=by
 obtain ⟨h1,h2,h3⟩:=hr.heap fx Z2 Dk hq
 rcases h1 b with g |⟨q,i,o,y,g1,g2,g3,g4,g5⟩
 ·rcases h.od b with g' | ⟨q,i,o,y,g1,g2,g3,g4⟩
  ·rw [g',← g];exact hx
  ·rw [g,h.bl b (by rw [g4.id];exact hr.oO fx g1 (Nat.le_of_lt g2.lt)) (by rw [g4.id];exact hr.pO fx g2.lt (Nat.le_refl _) g2 g4.al)] at hx
   cases hx
 ·rw [hx] at g5;cases g5
  exact h.pe q i o b _ g1 g3 (hd q i o g1 g2 g3 g4.id g4.al g4.nt) g4
theorem Ah.turn (fx:∀ p,p<l.length → ∃ i o,At ops l p i o) (hr:JB P G ops l S V) {w w':World} {ρ aR:cl} {fp fp':Fp} {cB:AH O} {j:Nat} (h:Ah RO P ops l S yc fp0 gJ w0 listed w ρ fp cB j) (Jy:E' ops (rJ listed)) (qX:listed.size=ops.length) {p i:Nat} {o:Oper} (ha:At ops l p i o) (hnd:¬ rJ listed i)
  (SU:∀ e∈o.after,Region.binds .any e=true → rJ listed e.on) (ht:turns o.op=true) (hwt:dm ops (S p).e o=some true):
  Rel RO P ρ (shr fp (S p).σ) (S p).σ w ∧ (aM o.op=true → (S p).nid<(S p).σ.next ∧ ρ (S p).nid=none) ∧
  (
   aO RO P (fun b=>b<(S p).σ.next ∧ (aM o.op=true → b≠(S p).nid)) ρ (shr fp (S p).σ) (S p).σ w aR fp' (S (p+1)).σ w' →
   ∃ Vd SW,Ah RO P ops l S yc fp0 gJ w0 (listed.setIfInBounds i true) w' aR Vd SW (p+1)):=by
 have bS:i<listed.size:=by rw [qX];exact (List.getElem?_eq_some_iff.1 ha.2).1
 have hD:∀ i,rJ listed i → i<ops.length:=fun i hi=>rJ.lt qX hi
 have Z2:j ≤ p:=h.ge fx hr Jy qX ha hnd (.inl ht)
 have before:∀ q i' o',q<p → At ops l q i' o' → (turns o'.op=true ∨ aM o'.op=true) → rJ listed i':=fun q i' o' g1 g2 g3=>by
  have hp:=hr.Vc.pair q p i' i o' o g1 g2 ha
  rcases hp.or with g |⟨_,g4,g5⟩
  ·exact Ia Jy hD ha.2 SU g
  ·cases htt:turns o'.op with
   |true=>have:=(g4 htt).1;rw [ht] at this;cases this
   |false=>
    rw [htt] at g3
    rcases g3 with g3 |g3
    ·cases g3
    ·have:=g5 g3 htt;rw [ht] at this;cases this
 have hq:∀ q i' o',j ≤ q → q<p → At ops l q i' o' → ¬ (turns o'.op=true ∧ dm ops (S q).e o'=some true):=fun q i' o' g1 g2 g3 g4=>
  h.late q i' o' g1 g3 (before q i' o' g2 g3 (.inl g4.1)) g4
 have Dk:=Nat.le_of_lt ha.lt
 obtain ⟨e1,e2,e3⟩:=hr.heap fx Z2 Dk hq
 have QC:∀ b x,(S p).σ.ai b=some x → cB.ai b=some x:=fun b x hx=>h.sub fx hr Z2 Dk hq hx fun q i' o' g1 g2 g3 _ g5 _=>before q i' o' g2 g3 (.inr g5)
 have hn:(S p).σ.next=cB.next:=by rw [e3,h.nx]
 have aas:∀ b,(S p).nid ≤ b → b<(S l.length).nid → (S p).σ.ai b=none:=fun b g1 g2=>by
  rcases e1 b with g |⟨q,i',o',y,g3,g4,g5,g6,g7⟩
  ·rw [g]
   exact h.bl b (Nat.le_trans (hr.oO fx Z2 Dk) g1) g2
  ·have:=hr.pO fx g4 Dk g5 g6.al
   rw [← g6.id] at this;omega
 have agQ:∀ b x,(S p).σ.ai b=none → cB.ai b=some x → ∃ q i' o',p<q ∧ At ops l q i' o' ∧ rJ listed i' ∧ QB ops S q o' b x:=fun b x g1 g2=>by
  rcases h.od b with g |⟨q,i',o',y,g3,g4,g5,g6⟩
  ·rw [g2] at g
   rcases e1 b with g' | ⟨q,i',o',y,g3,g4,g5,g6,g7⟩
   ·rw [g1,← g] at g';cases g'
   ·rw [g7] at g1;cases g1
  ·have Vf:p<q:=by
    rcases Nat.lt_trichotomy q p with hh |hh |hh
    ·rw [e2 q i' o' b y g3 hh g4 g6] at g1;cases g1
    ·subst hh
     obtain ⟨rfl,rfl⟩:=g4.fn ha
     exact absurd g5 hnd
    ·exact hh
   have:=h.pe q i' o' b y g3 g4 g5 g6
   rw [g2] at this;cases this
   exact ⟨q,i',o',Vf,g4,g5,g6⟩
 have hpS:∀ b x,(S p).σ.ai b=none → cB.ai b=some x → (∃ el cs,x=.cells true el cs) ∧ (b<(S p).σ.next ∧ (aM o.op=true → b≠(S p).nid)):=fun b x g1 g2=>by
  obtain ⟨q,i',o',g3,g4,_,g6⟩:=agQ b x g1 g2
  refine ⟨g6.sh,?_,fun tM=>?_⟩
  ·rw [g6.id,e3]
   have:=hr.pO fx g4.lt (Nat.le_refl _) g4 g6.al
   have:=h.top
   omega
  ·rw [g6.id];exact hr.QH fx (by omega) g4 g6.al ha tM
 refine ⟨h.post.rel.shrink QC hn,fun tM=>⟨?_,h.nr p i o ha hnd tM⟩,fun hp=>?_⟩
 ·have:=hr.pO fx ha.lt (Nat.le_refl _) ha tM
  have:=h.top
  rw [e3];omega
 ·obtain ⟨Vd,h3⟩:=aO.ahX h.post.rel QC hn hpS hp
  have h3':aO RO P (fun b=>b<cB.next ∧ (aM o.op=true → b≠(S p).nid)) ρ fp cB w aR Vd (BD (S p).σ cB (S (p+1)).σ) w':=h3.mono fun b hb=>by rw [hn];exact hb
  have aat:=hr.nid ha
  have Vg:(S p).nid ≤ (S (p+1)).nid:=by rw [aat];split<;>omega
  refine ⟨Vd,_,ha.lt,.inr ⟨p,i,o,rfl,ha,(dQ bS).2 (.inl rfl),ht,hwt⟩,fun q i' o' g1 g2 g3=>?_,h.aar fx hr ha h3',rfl,fun q i' o' b x g1 g2 g3 g4=>?_,fun b=>?_,fun b g1 g2=>?_,h.nr' fx hr qX ha h3',?_⟩
  ·rcases (dQ bS).1 g3 with rfl |g3
   ·have:=At.inj hr.Vc g2 ha;omega
   ·exact h.late q i' o' (by omega) g2 g3
  ·have g5:rJ listed i':=by
    rcases (dQ bS).1 g3 with rfl |g3
    ·have:=At.inj hr.Vc g2 ha;omega
    ·exact g3
   have g6:=h.pe q i' o' b x (by omega) g2 g5 g4
   have g7:(S p).σ.ai b=none:=aas b (by rw [g4.id];exact hr.oO fx (show p ≤ q by omega) (Nat.le_of_lt g2.lt)) (by rw [g4.id];exact hr.pO fx g2.lt (Nat.le_refl _) g2 g4.al)
   have:pP (S p).σ cB b=true:=by simp [pP,g6,g7]
   simp [BD,this,g6]
  ·by_cases hpd:pP (S p).σ cB b=true
   ·right
    obtain ⟨g1,x,g2⟩:=Ic hpd
    obtain ⟨q,i',o',g3,g4,g5,g6⟩:=agQ b x g1 g2
    exact ⟨q,i',o',x,g3,g4,(dQ bS).2 (.inr g5),g6⟩
   ·left;simp [BD,hpd]
  ·refine hp.blank b ⟨?_,fun tM=>?_⟩ ?_ (aas b (by omega) g2)
   ·have:=h.top;rw [e3];omega
   ·rw [aat,if_pos tM] at g1;omega
   ·have:=h.top;rw [e3];omega
  ·have h5:=hp.next
   have:=h.top
   rw [e3] at h5
   exact Nat.le_trans this h5
end step
end Go.Abs
