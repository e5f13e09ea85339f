/-
  AbsExec: a function's text does what 'exec' says.
-/
import Derived.Test.YtncohicmiihjiaaGreatAbsDraw
import Derived.Scope
import Derived.LoopNIn
import Derived.RangeFuncLeaves
set_option linter.unusedVariables false
set_option linter.unusedSimpArgs false
set_option linter.constructorNameAsVariable false
namespace Go.Abs
open Go
variable {O:Type} {RO:O->Loc->(Nat->Option Obj)->Prop} {P:Program} {G:List (Nat × Sm O)} {n:Nat}
def X.out:X->Exit
 |.norm=>.normal
 |.exit id=>.exit id
 |.ret=>.ret
structure Marks (B0:Nat) (fp:Fp) (w:World) (ds:List Deferred):Prop where
 sz:B0<=w.heap.size
 nd:(ds.map (·.target)).Nodup
 it:∀ d∈ds,∃ r,d.target=.collected r/\B0<=r/\w.heap[r]? = some (.deferred (some []))/\∀ b,fp b r=none
theorem Marks.post {B0:Nat} {S:Nat->Prop} {ρ aQ:bX} {fp fp':Fp} {J J':AH O} {w w':World} {ds:List Deferred} (h:Marks B0 fp w ds) (p:aS RO P S ρ fp J w aQ fp' J' w'):Marks B0 fp' w' ds:=
 ⟨Nat.le_trans h.sz p.fr.size,h.nd,fun d hd=>by
  obtain ⟨r,h1,h2,h3,h4⟩:=h.it d hd
  have bp:=(Array.getElem?_eq_some_iff.1 h3).1
  refine ⟨r,h1,h2,(p.fr.dv r bp h4).trans h3,fun b=>?_⟩
  cases hb:fp' b r with
  |none=>rfl
  |some o=>obtain ⟨c,hc⟩:=p.grow b r bp (by rw [hb];simp);exact absurd (h4 c) hc⟩
def ou (RO:O->Loc->(Nat->Option Obj)->Prop) (P:Program) (n:Nat) (ro:Option Nat) (c:Code) (J:AH O) (e:Env) (x:X) (e':Env) (J':AH O):Prop:=
 ∀ (ρ:bX) (fp:Fp) (a:Act) (w:World),aJ n ρ e a->Rel RO P ρ fp J w->
  ∀ Q:Exit->Act->World->Prop,(∀ a' w' aQ fp',aJ n aQ e' a'->(∀ B0,Marks B0 fp w a.defers->Marks B0 fp' w' a'.defers)->(∀ t,t∉aU c->a'.tmps.getD t undef=a.tmps.getD t undef)->
   aS RO P (· < J.next) ρ fp J w aQ fp' J' w'->Q x.out a' w')->c.wpIn (Fw ro) 0 P Q a w
def kG (n:Nat) (c:Code):Bool:=(aU c).all fun t=>Nat.blt t n
theorem sf {c:Code} (h:kG n c=true):∀ t∈aU c,t<n:=fun t ht=>by
 have:=List.all_eq_true.1 h t ht
 exact Nat.le_of_ble_eq_true this
theorem tY {an:og} {ws:List Nat} {e:Env} {here:X->Bool} {body:{R:Type}->(X->Env->AH O->Option R)->Option R} {D:X->Env->AH O->Prop}
  (D3:∀ {R:Type} (K:X->Env->AH O->Option R) (r:R),body K=some r->∃ x e' J',K x e' J'=some r/\D x e' J') {R:Type} {K:X->Env->AH O->Option R} {r:R} (h:DV an ws e here body K=some r):
  ∃ x e1 J1,D x e1 J1/\((here x=true/\∃ e2,K .norm e2 J1=some r/\∀ t,e2 t=e1 t ∨ e2 t=.u ∨ (t∉ws/\e2 t=e t)) ∨ (here x=false/\K x e1 J1=some r)):=by
 unfold DV at h
 split at h
 ·rename_i bM _ _
  obtain ⟨r0,h0,h⟩:=Option.bind_eq_some_iff.1 h
  obtain ⟨x,e1,J1,h1,h2⟩:=D3 _ _ h0
  cases hx:here x with
  |false=>rw [hx] at h1;cases h1
  |true=>
   rw [hx] at h1
   simp only [cond_true,Option.some.injEq] at h1
   subst h1
   obtain ⟨e',k1,k2⟩:=md h
   exact ⟨x,e1,J1,h2,.inl ⟨hx,e',k1,k2⟩⟩
 ·rename_i bM _ _
  unfold cv at h
  split at h
  ·rename_i r0 h0
   obtain ⟨x,e1,J1,h1,h2⟩:=D3 _ _ h0
   cases hx:here x with
   |false=>
    rw [hx] at h1
    simp only [cond_false,Option.map_eq_some_iff] at h1
    obtain ⟨_,_,h1⟩:=h1;cases h1
   |true=>
    rw [hx] at h1
    simp only [cond_true,Option.some.injEq,Sum.inl.injEq] at h1
    subst h1
    obtain ⟨e',k1,k2⟩:=md h
    exact ⟨x,e1,J1,h2,.inl ⟨hx,e',k1,k2⟩⟩
  ·rename_i r0 h0
   obtain ⟨x,e1,J1,h1,h2⟩:=D3 _ _ h0
   simp only [Option.some.injEq] at h
   subst h
   cases hx:here x with
   |true=>rw [hx] at h1;simp at h1
   |false=>
    rw [hx] at h1
    simp only [cond_false,Option.map_eq_some_iff,Sum.inr.injEq] at h1
    obtain ⟨r1,h1,rfl⟩:=h1
    exact ⟨x,e1,J1,h2,.inr ⟨hx,h1⟩⟩
  ·cases h
 ·obtain ⟨x,e1,J1,h1,h2⟩:=D3 _ _ h
  cases hx:here x with
  |true=>rw [hx] at h1;exact ⟨x,e1,J1,h2,.inl ⟨hx,e1,h1,fun t=>.inl rfl⟩⟩
  |false=>rw [hx] at h1;exact ⟨x,e1,J1,h2,.inr ⟨hx,h1⟩⟩
theorem aJ.join {ρ aQ:bX} {e e1 e2:Env} {ws:List Nat} {a a':Act} (he:aJ n ρ e a) (hle:ρ.le aQ) (h1:aJ n aQ e1 a') (hk:∀ t,t∉ws->a'.tmps.getD t undef=a.tmps.getD t undef)
  (h:∀ t,e2 t=e1 t ∨ e2 t=.u ∨ (t∉ws/\e2 t=e t)):aJ n aQ e2 a':=
 ⟨h1.size,fun t=>by
  rcases h t with q |q |⟨q1,q⟩
  ·rw [q];exact h1.get t
  ·rw [q];exact .u _
  ·rw [q,hk t q1];exact (he.get t).mono hle⟩
theorem ox {S T:Type} {f:S->Option (S ⊕ T)} {s:S} {t:T} (h:bC f s=some t):∃ n,fB f n s=some t:=by
 unfold bC at h
 split at h
 ·rename_i t' h'
  cases h
  exact ⟨_,h'⟩
 ·split at h
  ·rename_i hh
   cases h
   exact ⟨_,Classical.choose_spec (Classical.choose_spec hh)⟩
  ·cases h
theorem tZ {S R:Type} {m:Option (S ⊕ R)} {f:S->Option R} {r:R} (h:cv m f=some r):(∃ s,m=some (.inl s)/\f s=some r) ∨ m=some (.inr r):=by
 unfold cv at h
 split at h
 ·exact .inl ⟨_,rfl,h⟩
 ·cases h;exact .inr rfl
 ·cases h
theorem nA {ro:Option Nat} {Q:Exit->Act->World->Prop} {a:Act} {w:World} {c:Code} (h:c.wpIn (Fw ro) 0 P (Exit.noGoto Q) a w):(Code.scope c).wpIn (Fw ro) 0 P Q a w:=by
 intro b k cs hro hb hr
 have h0:(lone (b.atR a (.code (.scope c)::k)) cs w).fenced P (Fw ro):=fenced_calm hb hr rfl
 have s1:step P (lone (b.atR a (.code (.scope c)::k)) cs w)=.next (lone (b.atR a (.code c::.inScope c::k)) cs w):=step_lone_go (by simp [stepG,stepG.exec,Frame.atR])
 have s2:∀ a w,step P (lone (b.atR a (.inScope c::k)) cs w)=.next (lone (b.atR a k) cs w):=fun a w=>step_lone_go (by simp [stepG,stepG.exec,Frame.atR])
 obtain ⟨e,Ig,Ih,hq,FL⟩:=h b (.inScope c::k) cs hro hb hr
 cases e with
 |normal=>exact ⟨.normal,Ig,Ih,hq,.head h0 s1 (StepsIn.trans FL (.one (fenced_calm hb hr rfl) (s2 _ _)))⟩
 |exit id=>
  have hx:exitTo id (.inScope c::k)=exitTo id k:=by simp [exitTo]
  exact ⟨_,Ig,Ih,hq,fun k' hk=>.head h0 s1 (FL.1 k' (by rw [hx];exact hk)),fun hr' hk=>let ⟨k₁,h1,h2⟩:=FL.2 hr' (by rw [hx];exact hk);⟨k₁,h1,.head h0 s1 h2⟩⟩
 |goto l=>exact hq.elim
 |ret=>exact ⟨_,Ig,Ih,hq,.of_steps (.one h0 s1) FL⟩
 |panic ch=>exact ⟨_,Ig,Ih,hq,.of_steps (.one h0 s1) FL⟩
 |outgrown=>exact ⟨_,Ig,Ih,hq,.of_steps (.one h0 s1) FL⟩
theorem ua {R:Type} {K:X->Option R} {s:Nat} {r:R}:∀ {cs:List Nat},DW cs s K=some r->3<=s/\K (Um s)=some r
 |[],h=>by cases h
 |c::cs,h=>by
  unfold DW at h
  cases hb:Nat.ble 3 c && Nat.beq s c with
  |true=>
   rw [hb] at h
   simp only [Bool.and_eq_true] at hb
   have:=Nat.eq_of_beq_eq_true hb.2
   subst this
   exact ⟨Nat.le_of_ble_eq_true hb.1,h⟩
  |false=>rw [hb] at h;exact ua h
theorem dG (hG:cS RO P G) (hm:P.follows .mixedOrders=true) {ro:Option Nat}:∀ (c:Code),kG n c=true->(ro=none ∨ plain c=true)->∀ (an:og),(∀ p,p∈bE c an->gW P p.1=some p.2)->∀ {R:Type} (e:Env) (J:AH O) (K:X->Env->AH O->Option R) (r:R),exec P G c an e J K=some r->
  ∃ x e' J',K x e' J'=some r/\ou RO P n ro c J e x e' J'
 |.skip,_,_,an,_,R,e,J,K,r,h=>⟨.norm,e,J,h,fun ρ fp a w he aC Q hQ=>wpIn_skip (hQ a w ρ fp he (fun _ h=>h) (fun _ _=>rfl) (aS.refl aC))⟩
 |.label _,_,_,an,_,R,e,J,K,r,h=>⟨.norm,e,J,h,fun ρ fp a w he aC Q hQ=>wpIn_label (hQ a w ρ fp he (fun _ h=>h) (fun _ _=>rfl) (aS.refl aC))⟩
 |.exit id,_,_,an,_,R,e,J,K,r,h=>⟨.exit id,e,J,h,fun ρ fp a w he aC Q hQ=>wpIn_exit (hQ a w ρ fp he (fun _ h=>h) (fun _ _=>rfl) (aS.refl aC))⟩
 |.ret,_,_,an,_,R,e,J,K,r,h=>⟨.ret,e,J,h,fun ρ fp a w he aC Q hQ=>wpIn_ret (hQ a w ρ fp he (fun _ h=>h) (fun _ _=>rfl) (aS.refl aC))⟩
 |.region id ops d,hd,hp,an,hs,R,e,J,K,r,h=>by
  have gI:∀ (i:Nat) (o:Oper) (t:Nat),ops.toList[i]? = some o->o.dst=some t->t<n:=fun i o t ho ht=>sf hd t (kF ho ht)
  cases d with
  |false=>
   obtain ⟨e',J',h1,h2⟩:=qR hG (id:=id) gI h
   exact ⟨.norm,e',J',h1,fun ρ fp a w he aC Q hQ=>h2 ρ fp a w he aC ro Q fun a' w' aQ fp' k1 k2 k3 k4=>hQ a' w' aQ fp' k1 (fun B0 hm=>by rw [k2];exact hm.post k4) k3 k4⟩
  |true=>
   obtain ⟨e',J',h1,h2⟩:=pF hG hm (id:=id) gI h
   exact ⟨.norm,e',J',h1,fun ρ fp a w he aC Q hQ=>h2 ρ fp a w he aC ro Q fun a' w' aQ fp' k1 k2 k3 k4=>hQ a' w' aQ fp' k1 (fun B0 hm=>by rw [k2];exact hm.post k4) k3 k4⟩
 |.seq a b,hd,hp,an,hs,R,e,J,K,r,h=>by
  have hpa:ro=none ∨ plain a=true:=hp.imp id fun h=>by simp only [plain,Bool.and_eq_true] at h;exact h.1
  have Uq:ro=none ∨ plain b=true:=hp.imp id fun h=>by simp only [plain,Bool.and_eq_true] at h;exact h.2
  have hsa:∀ p,p∈bE a an.l->gW P p.1=some p.2:=fun p h=>hs p (by simp only [bE,List.mem_append];exact .inl h)
  have oy:∀ p,p∈bE b an.r->gW P p.1=some p.2:=fun p h=>hs p (by simp only [bE,List.mem_append];exact .inr h)
  have hda:kG n a=true:=List.all_eq_true.2 fun t ht=>List.all_eq_true.1 hd t (by simp [aU,ht])
  have hdb:kG n b=true:=List.all_eq_true.2 fun t ht=>List.all_eq_true.1 hd t (by simp [aU,ht])
  obtain ⟨x,e1,J1,h1,h2⟩:=dG hG hm a hda hpa an.l hsa e J _ r h
  have other:x≠.norm->K x e1 J1=some r->∃ x e' J',K x e' J'=some r/\ou RO P n ro (.seq a b) J e x e' J':=fun hx hk=>by
   refine ⟨x,e1,J1,hk,fun ρ fp ac w he aC Q hQ=>wpIn_seq (h2 ρ fp ac w he aC _ fun a' w' aQ fp' k1 k2 k3 k4=>?_)⟩
   have:=hQ a' w' aQ fp' k1 k2 (fun t ht=>k3 t (fun h=>ht (by simp [aU,h]))) k4
   cases x<;>first |exact this |exact absurd rfl hx
  cases x with
  |norm=>
   simp only at h1
   obtain ⟨x,e2,J2,h3,h4⟩:=dG hG hm b hdb Uq an.r oy e1 J1 K r h1
   refine ⟨x,e2,J2,h3,fun ρ fp ac w he aC Q hQ=>wpIn_seq (h2 ρ fp ac w he aC _ fun a' w' aQ fp' k1 k2 k3 k4=>?_)⟩
   refine h4 aQ fp' a' w' k1 k4.rel Q fun Wk vE vF vG l1 l2 l3 l4=>?_
   refine hQ Wk vE vF vG l1 (fun B0 hm=>l2 B0 (k2 B0 hm)) (fun t ht=>(l3 t (fun h=>ht (by simp [aU,h]))).trans (k3 t (fun h=>ht (by simp [aU,h])))) ?_
   exact k4.trans (l4.mono fun b hb=>Nat.lt_of_lt_of_le hb k4.next)
  |exit id=>exact other (by simp) h1
  |ret=>exact other (by simp) h1
 |.cond c a b,hd,hp,an,hs,R,e,J,K,r,h=>by
  have hpa:ro=none ∨ plain a=true:=hp.imp id fun h=>by simp only [plain,Bool.and_eq_true] at h;exact h.1
  have Uq:ro=none ∨ plain b=true:=hp.imp id fun h=>by simp only [plain,Bool.and_eq_true] at h;exact h.2
  have hsa:∀ p,p∈bE a an.l->gW P p.1=some p.2:=fun p h=>hs p (by simp only [bE,List.mem_append];exact .inl h)
  have oy:∀ p,p∈bE b an.r->gW P p.1=some p.2:=fun p h=>hs p (by simp only [bE,List.mem_append];exact .inr h)
  have hda:kG n a=true:=List.all_eq_true.2 fun t ht=>List.all_eq_true.1 hd t (by simp [aU,ht])
  have hdb:kG n b=true:=List.all_eq_true.2 fun t ht=>List.all_eq_true.1 hd t (by simp [aU,ht])
  simp only [exec] at h
  split at h
  ·rename_i t ht
   have PM:∀ {x e' J'},ou RO P n ro (if t=true then a else b) J e x e' J'->ou RO P n ro (.cond c a b) J e x e' J':=fun {x e' J'} hh ρ fp ac w he aC Q hQ=>by
    have hc:ac.eval c=.bool t:=by
     have:=he.ev c;rw [ht] at this;exact this.wH
    refine wpIn_cond hc (hh ρ fp ac w he aC Q fun a' w' aQ fp' k1 k2 k3 k4=>hQ a' w' aQ fp' k1 k2 (fun q hq=>k3 q (fun h=>hq ?_)) k4)
    cases t
    ·simp only [Bool.false_eq_true,if_false] at h;simp [aU,h]
    ·simp only [if_true] at h;simp [aU,h]
   obtain ⟨x,e1,J1,h1,h2⟩:=tY (D:=fun x e' J'=>ou RO P n ro (.cond c a b) J e x e' J') (fun {R} K r hb=>by
    cases t with
    |true=>
     obtain ⟨x,e',J',g1,g2⟩:=dG hG hm a hda hpa an.l hsa e J K r (og.zW hb)
     exact ⟨x,e',J',g1,PM (by simpa using g2)⟩
    |false=>
     obtain ⟨x,e',J',g1,g2⟩:=dG hG hm b hdb Uq an.r oy e J K r (og.zW hb)
     exact ⟨x,e',J',g1,PM (by simpa using g2)⟩) h
   rcases h2 with ⟨hx,e2,g1,g2⟩ |⟨hx,g1⟩
   ·obtain rfl:x=.norm:=by cases x<;>first |rfl |cases hx
    exact ⟨.norm,e2,J1,g1,fun ρ fp ac w he aC Q hQ=>h1 ρ fp ac w he aC Q fun a' w' aQ fp' k1 k2 k3 k4=>hQ a' w' aQ fp' (he.join k4.le k1 k3 g2) k2 k3 k4⟩
   ·exact ⟨x,e1,J1,g1,h1⟩
  ·cases h
 |.block id c,hd,hp,an,hs,R,e,J,K,r,h=>by
  simp only [exec] at h
  obtain ⟨x,e1,J1,h1,h2⟩:=tY (D:=fun x e' J'=>ou RO P n ro c J e x e' J') (fun {R} K r hb=>by
   obtain ⟨x,e',J',g1,g2⟩:=dG hG hm c hd hp an.l hs e J K r hb
   exact ⟨x,e',J',g1,g2⟩) h
  rcases h2 with ⟨hx,e2,g1,g2⟩ |⟨hx,g1⟩
  ·refine ⟨.norm,e2,J1,g1,fun ρ fp ac w he aC Q hQ=>wpIn_block (h1 ρ fp ac w he aC _ fun a' w' aQ fp' k1 k2 k3 k4=>?_)⟩
   have:=hQ a' w' aQ fp' (he.join k4.le k1 k3 g2) k2 k3 k4
   cases x with
   |norm=>exact this
   |exit i=>
    have:i=id:=Nat.eq_of_beq_eq_true hx
    subst this
    simp only [X.out,Exit.inBlock,if_true]
    assumption
   |ret=>cases hx
  ·refine ⟨x,e1,J1,g1,fun ρ fp ac w he aC Q hQ=>wpIn_block (h1 ρ fp ac w he aC _ fun a' w' aQ fp' k1 k2 k3 k4=>?_)⟩
   have:=hQ a' w' aQ fp' k1 k2 k3 k4
   cases x with
   |norm=>cases hx
   |exit i=>
    have db:i≠id:=fun e=>by subst e;simp [X.PC] at hx
    simp only [X.out,Exit.inBlock,if_neg db]
    assumption
   |ret=>exact this
 |.loop c,hd,hp,an,hs,R,e,J,K,r,h=>by
  have key:∀ {T:Type} (bM:List (Nat × Ty)) (l:og) (H0:∀ p,p∈bE c l->gW P p.1=some p.2) (KK:X->Env->AH O->Option ((List AV × AH O) ⊕ T)) (hK:∀ e1 J1,KK .norm e1 J1=some (Sum.inl (fA bM e1,J1))) (hK':∀ x e1 J1,x≠.norm->∀ s,KK x e1 J1≠some (Sum.inl s)),
    ∀ (m:Nat) (e0:Env) (J0:AH O) (t:T),fB (fun r:List AV × AH O=>dV bM 0 r.1 (Env.mask (aU c) e) fun e=>exec P G c l e r.2 KK) m (fA bM e0,J0)=some t->
    ∃ x e1 J1,x≠.norm/\KK x e1 J1=some (Sum.inr t)/\∀ (mT:bX) (fp0:Fp) (a0:Act) (w0:World),aJ n mT e a0->∀ (ρ:bX) (fp:Fp) (a:Act) (w:World),aJ n ρ e0 a->mT.le ρ->(∀ t,t∉aU c->a.tmps.getD t undef=a0.tmps.getD t undef)->
     Rel RO P ρ fp J0 w->∀ Q:Exit->Act->World->Prop,(∀ a' w' aQ fp',aJ n aQ e1 a'->(∀ B0,Marks B0 fp w a.defers->Marks B0 fp' w' a'.defers)->(∀ t,t∉aU c->a'.tmps.getD t undef=a0.tmps.getD t undef)->aS RO P (· < J0.next) ρ fp J0 w aQ fp' J1 w'->Q x.out a' w')->
      Code.roundsIn (Fw ro) 0 P c Q m a w:=by
   intro T bM l H0 KK hK hK' m
   induction m with
   |zero=>intro e0 J0 t h;cases h
   |succ m ih=>
    intro e0 J0 t h
    simp only [fB] at h
    have pJ:∀ y,dV bM 0 (fA bM e0) (Env.mask (aU c) e) (fun e=>exec P G c l e J0 KK)=some y->
      ∃ x e1 J1,KK x e1 J1=some y/\∀ (mT:bX) (fp0:Fp) (a0:Act) (w0:World),aJ n mT e a0->∀ (ρ:bX) (fp:Fp) (a:Act) (w:World),aJ n ρ e0 a->mT.le ρ->(∀ t,t∉aU c->a.tmps.getD t undef=a0.tmps.getD t undef)->
       Rel RO P ρ fp J0 w->∀ Q:Exit->Act->World->Prop,(∀ a' w' aQ fp',aJ n aQ e1 a'->(∀ B0,Marks B0 fp w a.defers->Marks B0 fp' w' a'.defers)->(∀ t,t∉aU c->a'.tmps.getD t undef=a0.tmps.getD t undef)->aS RO P (· < J0.next) ρ fp J0 w aQ fp' J1 w'->Q x.out a' w')->c.wpIn (Fw ro) 0 P Q a w:=by
     intro y hy
     obtain ⟨e',k1,k2⟩:=md hy
     obtain ⟨x,e1,J1,g1,g2⟩:=dG hG hm c hd hp l H0 e' J0 KK y k1
     refine ⟨x,e1,J1,g1,fun mT fp0 a0 w0 Ur ρ fp a w he hle wI aC Q hQ=>?_⟩
     have hee:aJ n ρ e' a:=Ur.join hle he wI k2
     refine g2 ρ fp a w hee aC Q fun a' w' aQ fp' l1 l2 l3 l4=>hQ a' w' aQ fp' l1 l2 (fun t ht=>(l3 t ht).trans (wI t ht)) l4
    rcases tZ h with ⟨s,hs,h2⟩ |hs
    ·obtain ⟨x,e1,J1,g1,g2⟩:=pJ _ hs
     obtain rfl:x=.norm:=by
      cases x with
      |norm=>rfl
      |exit i=>exact absurd g1 (hK' _ _ _ (by simp) _)
      |ret=>exact absurd g1 (hK' _ _ _ (by simp) _)
     rw [hK] at g1
     simp only [Option.some.injEq,Sum.inl.injEq] at g1
     subst g1
     obtain ⟨x,e2,J2,q1,q2,q3⟩:=ih e1 J1 t h2
     refine ⟨x,e2,J2,q1,q2,fun mT fp0 a0 w0 Ur ρ fp a w he hle wI aC Q hQ=>?_⟩
     rw [roundsIn_succ]
     refine g2 mT fp0 a0 w0 Ur ρ fp a w he hle wI aC _ fun a' w' aQ fp' l1 l2 l3 l4=>?_
     refine q3 mT fp0 a0 w0 Ur aQ fp' a' w' l1 (hle.trans l4.le) l3 l4.rel Q fun Wk vE vF vG m1 m2 m3 m4=>?_
     exact hQ Wk vE vF vG m1 (fun B0 hm=>m2 B0 (l2 B0 hm)) m3 (l4.trans (m4.mono fun b hb=>Nat.lt_of_lt_of_le hb l4.next))
    ·obtain ⟨x,e1,J1,g1,g2⟩:=pJ _ hs
     have hx:x≠.norm:=fun e=>by rw [e,hK] at g1;simp at g1
     refine ⟨x,e1,J1,hx,g1,fun mT fp0 a0 w0 Ur ρ fp a w he hle wI aC Q hQ=>?_⟩
     rw [roundsIn_succ]
     refine g2 mT fp0 a0 w0 Ur ρ fp a w he hle wI aC _ fun a' w' aQ fp' l1 l2 l3 l4=>?_
     have:=hQ a' w' aQ fp' l1 l2 l3 l4
     cases x<;>first |exact absurd rfl hx |exact this
  simp only [exec] at h
  split at h
  ·rename_i FB bM out l
   obtain ⟨r0,FM,h⟩:=Option.bind_eq_some_iff.1 h
   obtain ⟨m,MK⟩:=ox FM
   obtain ⟨x,e1,J1,hx,q1,q2⟩:=key bM l hs _ (fun _ _=>rfl) (fun x e1 J1 hx s hh=>by
    cases x with
    |norm=>exact hx rfl
    |ret=>cases hh
    |exit i=>simp only at hh;cases hb:Nat.beq i FB<;>rw [hb] at hh<;>simp at hh) m e J r0 MK
   cases x with
   |norm=>exact absurd rfl hx
   |ret=>cases q1
   |exit id=>
    simp only at q1
    obtain ⟨jT,q3⟩:=aG q1
    have jT:=Nat.eq_of_beq_eq_true jT
    subst jT
    simp only [Option.some.injEq,Sum.inr.injEq] at q3
    subst q3
    obtain ⟨e2,k1,k2⟩:=md h
    refine ⟨.exit id,e2,J1,k1,fun ρ fp a w he aC Q hQ=>wpIn_loop_rounds m ?_⟩
    exact q2 ρ fp a w he ρ fp a w he (bX.le_refl _) (fun _ _=>rfl) aC Q fun a' w' aQ fp' l1 l2 l3 l4=>hQ a' w' aQ fp' (he.join l4.le l1 l3 k2) l2 l3 l4
  ·rename_i FB bM out l
   have RB:∀ (x:X) (e1:Env) (J1:AH O),x≠.norm->∀ s,(match x with
      |.norm=>some (Sum.inl (fA bM e1,J1))
      |.exit id=>bif Nat.beq id FB then some (Sum.inr (Sum.inl (fA out e1,J1))) else (K (.exit id) e1 J1).map fun r=>Sum.inr (Sum.inr r)
      |.ret=>(K .ret e1 J1).map fun r=>Sum.inr (Sum.inr r):Option ((List AV × AH O) ⊕ ((List AV × AH O) ⊕ R)))≠some (Sum.inl s):=fun x e1 J1 hx s hh=>by
    cases x with
    |norm=>exact hx rfl
    |ret=>simp at hh
    |exit i=>simp only at hh;cases hb:Nat.beq i FB<;>rw [hb] at hh<;>simp at hh
   rcases tZ h with ⟨r0,FM,h⟩ |FM
   ·obtain ⟨m,MK⟩:=ox FM
    obtain ⟨x,e1,J1,hx,q1,q2⟩:=key bM l hs _ (fun _ _=>rfl) RB m e J (Sum.inl r0) MK
    cases x with
    |norm=>exact absurd rfl hx
    |ret=>simp at q1
    |exit id=>
     simp only at q1
     cases jT:Nat.beq id FB with
     |false=>rw [jT] at q1;simp at q1
     |true=>
      rw [jT] at q1
      have jT:=Nat.eq_of_beq_eq_true jT
      subst jT
      simp only [cond_true,Option.some.injEq,Sum.inr.injEq,Sum.inl.injEq] at q1
      subst q1
      obtain ⟨e2,k1,k2⟩:=md h
      refine ⟨.exit id,e2,J1,k1,fun ρ fp a w he aC Q hQ=>wpIn_loop_rounds m ?_⟩
      exact q2 ρ fp a w he ρ fp a w he (bX.le_refl _) (fun _ _=>rfl) aC Q fun a' w' aQ fp' l1 l2 l3 l4=>hQ a' w' aQ fp' (he.join l4.le l1 l3 k2) l2 l3 l4
   ·obtain ⟨m,MK⟩:=ox FM
    obtain ⟨x,e1,J1,hx,q1,q2⟩:=key bM l hs _ (fun _ _=>rfl) RB m e J (Sum.inr r) MK
    have fin:K x e1 J1=some r->∃ x e' J',K x e' J'=some r/\ou RO P n ro (.loop c) J e x e' J':=fun hk=>
     ⟨x,e1,J1,hk,fun ρ fp a w he aC Q hQ=>wpIn_loop_rounds m (q2 ρ fp a w he ρ fp a w he (bX.le_refl _) (fun _ _=>rfl) aC Q fun a' w' aQ fp' l1 l2 l3 l4=>hQ a' w' aQ fp' l1 l2 l3 l4)⟩
    cases x with
    |norm=>exact absurd rfl hx
    |exit id=>
     simp only at q1
     cases jT:Nat.beq id FB with
     |true=>rw [jT] at q1;simp at q1
     |false=>
      rw [jT] at q1
      simp only [cond_false,Option.map_eq_some_iff,Sum.inr.injEq] at q1
      obtain ⟨r1,q1,e⟩:=q1
      subst e
      exact fin q1
    |ret=>
     simp only [Option.map_eq_some_iff,Sum.inr.injEq] at q1
     obtain ⟨r1,q1,e⟩:=q1
     subst e
     exact fin q1
  ·cases h
 |.scope c,hd,hp,an,hs,R,e,J,K,r,h=>by
  simp only [exec] at h
  obtain ⟨x,e1,J1,g1,g2⟩:=dG hG hm c hd hp an.l hs e J K r h
  refine ⟨x,e1,J1,g1,fun ρ fp a w he aC Q hQ=>nA (g2 ρ fp a w he aC _ fun a' w' aQ fp' k1 k2 k3 k4=>?_)⟩
  have:=hQ a' w' aQ fp' k1 k2 k3 k4
  cases x<;>exact this
 |.rangeFunc g ps DX body,hd,hp,an,hs,R,e,J,K,r,h=>by
  have hro:ro=none:=hp.resolve_right (by simp [plain])
  subst hro
  simp only [exec] at h
  split at h
  ·rename_i site bM outs
   split at h
   ·rename_i f PN
    obtain ⟨⟨v1,J1⟩,hc,h'⟩:=Option.bind_eq_some_iff.1 h
    clear h
    obtain ⟨c,fi,ca,rfl⟩:∃ c fi ca,f=some (.func c,fi,ca):=by
     unfold xV at hc
     split at hc
     ·rename_i c fi ca;exact ⟨c,fi,ca,rfl⟩
     ·cases hc
    replace hc:ny G (c+sI) (fi++[.fn (some (.yield J.next,[],[]))]++ca) ((J.az 1).put J.next (.loop site (bM.map fun t=>(t,e t)) .ready))=some (v1,J1):=hc
    obtain ⟨s,hl,h⟩:=Option.bind_eq_some_iff.1 h'
    simp only at hl h
    have Wl:gW P site=some (ps,DX,body):=hs (site,(ps,DX,body)) (by simp [bE])
    obtain ⟨x,hk,hx⟩:∃ x,K x e (J1.kill J.next)=some r/\((x=.norm/\s=0) ∨ (x=Um s/\3<=s)):=by
     cases h0:Nat.beq s 0 with
     |true=>rw [h0] at h;exact ⟨.norm,h,.inl ⟨rfl,Nat.eq_of_beq_eq_true h0⟩⟩
     |false=>rw [h0] at h;obtain ⟨h1,h2⟩:=ua h;exact ⟨Um s,h2,.inr ⟨rfl,h1⟩⟩
    obtain ⟨c',qP,RH,afI⟩:∃ c',c+sI=c'+sI/\ag P c'/\ai RO P c' (ny G (c+sI)):=by
     rcases oA hG hc with ⟨h0,_⟩ |⟨h0,_⟩ |⟨h0,_⟩ |h
     ·simp only [jK,sI] at h0;omega
     ·simp only [jK,sI] at h0;omega
     ·simp only [jK,sI] at h0;omega
     ·exact h
    obtain rfl:c=c':=Nat.add_right_cancel qP
    refine ⟨x,e,J1.kill J.next,hk,fun ρ fp a w he aC Q hQ=>?_⟩
    refine wpIn_rangeFunc fun fn _=>?_
    have hg:=he.ev g
    rw [PN] at hg
    obtain ⟨yi,yj,uf,hfi,hca⟩:=hg.Cf
    have yk:aS RO P (· < J.next) ρ fp J w ρ fp J (w.alloc (.deferred (some []))):=aS.more aC (fun B hB=>heap_alloc_old w _ B hB) (by simp) rfl rfl rfl
    have afJ:(w.alloc (.deferred (some []))).heap.size=w.heap.size+1:=by simp
    let r0:Loop:={state:=.ready,pending:=none,fn:=fn,tmps:=a.tmps,params:=ps,assign:=DX,body:=body,defers:=w.heap.size}
    obtain ⟨LR,wJ,Wm,wv⟩:=aS.Ii (J:=J.az 1) (nid:=J.next) (yk.rel.az 1) (Nat.lt_succ_self _) (aC.next _ (Nat.le_refl _)).1 (.loop r0) (.loop site (bM.map fun t=>(t,e t)) .ready) ⟨(w.alloc (.deferred (some []))).heap.size,0,0,0⟩ (fun aQ hle w'=>
     ⟨r0,(ps,DX,body),rfl,Wl,rfl,rfl,rfl,⟨rfl,rfl⟩,fun t ht=>by rw [show r0.tmps.size=n from he.size];exact sf hd t ht,fun t v hm=>by
      simp only [List.mem_map,Prod.mk.injEq] at hm
      obtain ⟨t',_,rfl,rfl⟩:=hm
      exact (he.get t').mono hle⟩)
    have hargs:aL LR (fi++[.fn (some (.yield J.next,[],[]))]++ca) (yi.toArray ++ #[Value.func (.yield (w.alloc (.deferred (some []))).heap.size) #[] #[]]++yj.toArray).toList:=by
     simp only [Array.toList_append]
     exact ((hfi.mono wv.le).append (.cons _ _ _ _ (.yl _ _ (.n _ _ Wm)) .nil)).append (hca.mono wv.le)
    have Wn:=afI _ _ _ _ hc LR wJ _ (yi.toArray ++ #[Value.func (.yield (w.alloc (.deferred (some []))).heap.size) #[] #[]]++yj.toArray) hargs wv.rel
    refine ⟨(w.alloc (.deferred (some []))).heap.size,[{target:=.collected w.heap.size,args := #[]}],(w.alloc (.deferred (some []))).alloc (.loop r0),{target:=.fn (.func c) yj.toArray,args:=yi.toArray ++ #[Value.func (.yield (w.alloc (.deferred (some []))).heap.size) #[] #[]]},(w.alloc (.deferred (some []))).alloc (.loop r0),c,yi.toArray ++ #[Value.func (.yield (w.alloc (.deferred (some []))).heap.size) #[] #[]]++yj.toArray,(w.alloc (.deferred (some []))).alloc (.loop r0),?_,?_,fun _ _=>trivial,?_,fun h=>(Bool.false_ne_true h).elim,oB.2 (Wn.mono ?_)⟩
    ·rw [afJ];exact run_enterLoop_outer fn a.tmps ps DX body
    ·have ec:a.eval (.const (Value.func (.yield (w.alloc (.deferred (some []))).heap.size) #[] #[]))=Value.func (.yield (w.alloc (.deferred (some []))).heap.size) #[] #[]:=rfl
     simp [resolve,uf,Deferred.ofValue]
     rfl
    ·exact RH _ _
    rintro xx w3 ⟨By,D6,u,rfl,hu,qG⟩
    obtain ⟨D7,ML,st,Ce,jD⟩:∃ D7 ML st,J1.aa J.next=some (.loop D7 ML st)/\st.code=s:=by
     unfold MG at hl
     split at hl
     ·rename_i s' e' st' hb;exact ⟨s',e',st',hb,by simpa using hl⟩
     ·cases hl
    have Us:=qG.le.l _ _ Wm
    obtain ⟨r3,x3,g1,g2,g3,g4,g5,g6,g7,g8⟩:=qG.rel.aa _ _ _ Ce Us
    have D8:w3.heap[(w.alloc (.deferred (some []))).heap.size]? = some (.loop r3):=qG.rel.has _ _ _ (by rw [g1];exact bO _ _)
    obtain ⟨Bw,Ut⟩:=aS.ym (S:=(· < J.next)) qG.rel Ce Us g1 (x1:=.loop D7 ML .gone) (ob':=.loop {r3 with state:=.exhausted}) (fun w'=>⟨{r3 with state:=.exhausted},x3,rfl,g2,g3,g4,g5,trivial,g7,g8⟩)
    obtain ⟨Wo,hp4⟩:=aS.kill (S:=(· < J.next)) Ut.rel J.next
    have ek:(J1.put J.next (.loop D7 ML .gone)).kill J.next=J1.kill J.next:=by
     simp only [AH.put,AH.kill,AH.mk.injEq,and_true]
     funext q
     cases Nat.beq q J.next<;>rfl
    rw [ek] at hp4
    have T1:aS RO P (· < J.next) ρ fp J (w.alloc (.deferred (some []))) By Wo (J1.kill J.next) (w3.putObj (w.alloc (.deferred (some []))).heap.size (.loop {r3 with state:=.exhausted})):=
     aS.ye ((wv.mono fun b (hb:b<J.next)=>by omega).trans ((qG.mono fun b (hb:b<J.next)=>Nat.lt_succ_of_lt hb).trans (Ut.trans hp4)))
    have T:=yk.trans T1
    have hE:aJ n By e ({a with defers:=[{target:=.collected w.heap.size,args := #[]}]++a.defers}:Act):=⟨he.size,fun t=>(he.get t).mono T.le⟩
    have hM:∀ B0,Marks B0 fp w a.defers->Marks B0 Wo (w3.putObj (w.alloc (.deferred (some []))).heap.size (.loop {r3 with state:=.exhausted})) ([{target:=.collected w.heap.size,args := #[]}]++a.defers):=fun B0 hm=>by
     have m1:=hm.post yk
     refine Marks.post (S:=(· < J.next)) ⟨m1.sz,?_,fun d vD=>?_⟩ T1
     ·simp only [List.cons_append,List.nil_append,List.map_cons,List.nodup_cons]
      refine ⟨fun afK=>?_,hm.nd⟩
      obtain ⟨d,Wp,Wq⟩:=List.mem_map.1 afK
      obtain ⟨r,k1,_,k3,_⟩:=hm.it d Wp
      rw [k1] at Wq
      cases Wq
      have:=(Array.getElem?_eq_some_iff.1 k3).1
      omega
     ·rcases List.mem_append.1 vD with vD |vD
      ·simp only [List.mem_singleton] at vD
       subst vD
       refine ⟨w.heap.size,rfl,hm.sz,heap_alloc_new w _,fun b=>?_⟩
       cases hb:fp b w.heap.size with
       |none=>rfl
       |some o=>have:=aC.size (b:=b) (B:=w.heap.size) (by rw [hb];simp);omega
      ·exact m1.it d vD
    have done:∀ {x:X} {Q':Exit->Act->World->Prop},Q'=Q->K x e (J1.kill J.next)=some r->True:=fun _ _=>trivial
    have hq:=hQ _ _ By Wo hE hM (fun _ _=>rfl) T
    cases st with
    |ready=>
     obtain ⟨k1,k2⟩:=g6
     refine ⟨none,_,by rw [<-k2];exact run_endLoop D8 (by rw [k1];simp),?_⟩
     rcases hx with ⟨rfl,_⟩ |⟨_,h3⟩
     ·exact hq
     ·simp only [Fs.code] at jD;omega
    |busy=>rcases hx with ⟨_,h3⟩ |⟨_,h3⟩<;>simp only [Fs.code] at jD<;>omega
    |gone=>rcases hx with ⟨_,h3⟩ |⟨_,h3⟩<;>simp only [Fs.code] at jD<;>omega
    |done j=>
     obtain ⟨k1,k2⟩:=g6
     refine ⟨some (PO j),_,by rw [<-k2];exact run_endLoop D8 (by rw [k1];simp),?_⟩
     cases j with
     |none=>
      simp only [Fs.code] at jD
      rcases hx with ⟨_,h3⟩ |⟨rfl,_⟩
      ·omega
      ·subst jD
       exact wpIn_ret hq
     |some id=>
      simp only [Fs.code] at jD
      rcases hx with ⟨_,h3⟩ |⟨rfl,_⟩
      ·omega
      ·subst jD
       have:Um (id+4)=.exit id:=by unfold Um;rw [if_neg (by omega)];congr 1
       rw [this] at hq
       exact wpIn_exit hq
   ·cases h
  ·cases h
 |.goto _,_,_,an,_,R,e,J,K,r,h=>by cases h
 |.refuse _,_,_,an,_,R,e,J,K,r,h=>by cases h
end Go.Abs
