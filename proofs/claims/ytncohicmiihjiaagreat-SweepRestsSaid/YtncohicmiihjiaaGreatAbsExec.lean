/-
  AbsExec: a function's text does what 'exec' says.
-/
import Derived.Test.YtncohicmiihjiaaGreatAbsIter
set_option linter.unusedVariables false
set_option linter.unusedSimpArgs false
set_option linter.constructorNameAsVariable false
namespace Go.Abs
open Go
variable {O:Type} {RO:O->Loc->(Nat->Option Obj)->Prop} {P:Program} {G:List (Nat × Sm O)} {n:Nat}
theorem dX (hG:eH RO P G) (hm:P.follows .mixedOrders=true) {ro:Option Nat}:∀ (c:Code),jE n c=true->(ro=none ∨ plain c=true)->∀ (an:pd),(∀ p,p∈bp c an->kA P p.1=some p.2)->∀ {R:Type} (e:Env) (J:AH O) (K:X->Env->AH O->Option R) (r:R),exec P G c an e J K=some r->
  ∃ x e' J',K x e' J'=some r/\md RO P n ro c J e x e' J'
 |.skip,_,_,an,_,R,e,J,K,r,h=>⟨.norm,e,J,h,fun ρ fp a w he aA Q hQ=>wpIn_skip (hQ a w ρ fp he (fun _ h=>h) (fun _ _=>rfl) (aR.refl aA))⟩
 |.label _,_,_,an,_,R,e,J,K,r,h=>⟨.norm,e,J,h,fun ρ fp a w he aA Q hQ=>wpIn_label (hQ a w ρ fp he (fun _ h=>h) (fun _ _=>rfl) (aR.refl aA))⟩
 |.exit id,_,_,an,_,R,e,J,K,r,h=>⟨.exit id,e,J,h,fun ρ fp a w he aA Q hQ=>wpIn_exit (hQ a w ρ fp he (fun _ h=>h) (fun _ _=>rfl) (aR.refl aA))⟩
 |.ret,_,_,an,_,R,e,J,K,r,h=>⟨.ret,e,J,h,fun ρ fp a w he aA Q hQ=>wpIn_ret (hQ a w ρ fp he (fun _ h=>h) (fun _ _=>rfl) (aR.refl aA))⟩
 |.region id ops d,hd,hp,an,hs,R,e,J,K,r,h=>by
  have gJ:∀ (i:Nat) (o:Oper) (t:Nat),ops.toList[i]? = some o->o.dst=some t->t<n:=fun i o t ho ht=>jx hd t (kD ho ht)
  cases d with
  |false=>
   obtain ⟨e',J',h1,h2⟩:=qH hG (id:=id) gJ h
   exact ⟨.norm,e',J',h1,fun ρ fp a w he aA Q hQ=>h2 ρ fp a w he aA ro Q fun a' w' aQ fp' k1 k2 k3 k4=>hQ a' w' aQ fp' k1 (fun B0 hm=>by rw [k2];exact hm.post k4) k3 k4⟩
  |true=>
   obtain ⟨e',J',h1,h2⟩:=pl hG hm (id:=id) gJ h
   exact ⟨.norm,e',J',h1,fun ρ fp a w he aA Q hQ=>h2 ρ fp a w he aA ro Q fun a' w' aQ fp' k1 k2 k3 k4=>hQ a' w' aQ fp' k1 (fun B0 hm=>by rw [k2];exact hm.post k4) k3 k4⟩
 |.seq a b,hd,hp,an,hs,R,e,J,K,r,h=>by
  have hpa:ro=none ∨ plain a=true:=hp.imp id fun h=>by simp only [plain,Bool.and_eq_true] at h;exact h.1
  have Sx:ro=none ∨ plain b=true:=hp.imp id fun h=>by simp only [plain,Bool.and_eq_true] at h;exact h.2
  have hsa:∀ p,p∈bp a an.l->kA P p.1=some p.2:=fun p h=>hs p (by simp only [bp,List.mem_append];exact .inl h)
  have qw:∀ p,p∈bp b an.r->kA P p.1=some p.2:=fun p h=>hs p (by simp only [bp,List.mem_append];exact .inr h)
  have Vh:jE n a=true:=List.all_eq_true.2 fun t ht=>List.all_eq_true.1 hd t (by simp [aB,ht])
  have W6:jE n b=true:=List.all_eq_true.2 fun t ht=>List.all_eq_true.1 hd t (by simp [aB,ht])
  obtain ⟨x,e1,J1,h1,h2⟩:=dX hG hm a Vh hpa an.l hsa e J _ r h
  have other:x≠.norm->K x e1 J1=some r->∃ x e' J',K x e' J'=some r/\md RO P n ro (.seq a b) J e x e' J':=fun hx hk=>by
   refine ⟨x,e1,J1,hk,fun ρ fp ac w he aA Q hQ=>wpIn_seq (h2 ρ fp ac w he aA _ fun a' w' aQ fp' k1 k2 k3 k4=>?_)⟩
   have:=hQ a' w' aQ fp' k1 k2 (fun t ht=>k3 t (fun h=>ht (by simp [aB,h]))) k4
   cases x<;>first |exact this |exact absurd rfl hx
  cases x with
  |norm=>
   simp only at h1
   obtain ⟨x,e2,J2,h3,h4⟩:=dX hG hm b W6 Sx an.r qw e1 J1 K r h1
   refine ⟨x,e2,J2,h3,fun ρ fp ac w he aA Q hQ=>wpIn_seq (h2 ρ fp ac w he aA _ fun a' w' aQ fp' k1 k2 k3 k4=>?_)⟩
   refine h4 aQ fp' a' w' k1 k4.rel Q fun W7 vI vJ vK l1 l2 l3 l4=>?_
   refine hQ W7 vI vJ vK l1 (fun B0 hm=>l2 B0 (k2 B0 hm)) (fun t ht=>(l3 t (fun h=>ht (by simp [aB,h]))).trans (k3 t (fun h=>ht (by simp [aB,h])))) ?_
   exact k4.trans (l4.mono fun b hb=>Nat.lt_of_lt_of_le hb k4.next)
  |exit id=>exact other (by simp) h1
  |ret=>exact other (by simp) h1
 |.cond c a b,hd,hp,an,hs,R,e,J,K,r,h=>by
  have hpa:ro=none ∨ plain a=true:=hp.imp id fun h=>by simp only [plain,Bool.and_eq_true] at h;exact h.1
  have Sx:ro=none ∨ plain b=true:=hp.imp id fun h=>by simp only [plain,Bool.and_eq_true] at h;exact h.2
  have hsa:∀ p,p∈bp a an.l->kA P p.1=some p.2:=fun p h=>hs p (by simp only [bp,List.mem_append];exact .inl h)
  have qw:∀ p,p∈bp b an.r->kA P p.1=some p.2:=fun p h=>hs p (by simp only [bp,List.mem_append];exact .inr h)
  have Vh:jE n a=true:=List.all_eq_true.2 fun t ht=>List.all_eq_true.1 hd t (by simp [aB,ht])
  have W6:jE n b=true:=List.all_eq_true.2 fun t ht=>List.all_eq_true.1 hd t (by simp [aB,ht])
  simp only [exec] at h
  split at h
  ·rename_i t ht
   have Qy:∀ {x e' J'},md RO P n ro (if t=true then a else b) J e x e' J'->md RO P n ro (.cond c a b) J e x e' J':=fun {x e' J'} hh ρ fp ac w he aA Q hQ=>by
    have hc:ac.eval c=.bool t:=by
     have:=he.ev c;rw [ht] at this;exact this.wI
    refine wpIn_cond hc (hh ρ fp ac w he aA Q fun a' w' aQ fp' k1 k2 k3 k4=>hQ a' w' aQ fp' k1 k2 (fun q hq=>k3 q (fun h=>hq ?_)) k4)
    cases t
    ·simp only [Bool.false_eq_true,if_false] at h;simp [aB,h]
    ·simp only [if_true] at h;simp [aB,h]
   obtain ⟨x,e1,J1,h1,h2⟩:=tU (D:=fun x e' J'=>md RO P n ro (.cond c a b) J e x e' J') (fun {R} K r hb=>by
    cases t with
    |true=>
     obtain ⟨x,e',J',g1,g2⟩:=dX hG hm a Vh hpa an.l hsa e J K r (pd.z8 hb)
     exact ⟨x,e',J',g1,Qy (by simpa using g2)⟩
    |false=>
     obtain ⟨x,e',J',g1,g2⟩:=dX hG hm b W6 Sx an.r qw e J K r (pd.z8 hb)
     exact ⟨x,e',J',g1,Qy (by simpa using g2)⟩) h
   rcases h2 with ⟨hx,e2,g1,g2⟩ |⟨hx,g1⟩
   ·obtain rfl:x=.norm:=by cases x<;>first |rfl |cases hx
    exact ⟨.norm,e2,J1,g1,fun ρ fp ac w he aA Q hQ=>h1 ρ fp ac w he aA Q fun a' w' aQ fp' k1 k2 k3 k4=>hQ a' w' aQ fp' (he.join k4.le k1 k3 g2) k2 k3 k4⟩
   ·exact ⟨x,e1,J1,g1,h1⟩
  ·cases h
 |.block id c,hd,hp,an,hs,R,e,J,K,r,h=>by
  simp only [exec] at h
  obtain ⟨x,e1,J1,h1,h2⟩:=tU (D:=fun x e' J'=>md RO P n ro c J e x e' J') (fun {R} K r hb=>by
   obtain ⟨x,e',J',g1,g2⟩:=dX hG hm c hd hp an.l hs e J K r hb
   exact ⟨x,e',J',g1,g2⟩) h
  rcases h2 with ⟨hx,e2,g1,g2⟩ |⟨hx,g1⟩
  ·refine ⟨.norm,e2,J1,g1,fun ρ fp ac w he aA Q hQ=>wpIn_block (h1 ρ fp ac w he aA _ fun a' w' aQ fp' k1 k2 k3 k4=>?_)⟩
   have:=hQ a' w' aQ fp' (he.join k4.le k1 k3 g2) k2 k3 k4
   cases x with
   |norm=>exact this
   |exit i=>
    have:i=id:=Nat.eq_of_beq_eq_true hx
    subst this
    simp only [X.out,Exit.inBlock,if_true]
    assumption
   |ret=>cases hx
  ·refine ⟨x,e1,J1,g1,fun ρ fp ac w he aA Q hQ=>wpIn_block (h1 ρ fp ac w he aA _ fun a' w' aQ fp' k1 k2 k3 k4=>?_)⟩
   have:=hQ a' w' aQ fp' k1 k2 k3 k4
   cases x with
   |norm=>cases hx
   |exit i=>
    have cJ:i≠id:=fun e=>by subst e;simp [X.Qr] at hx
    simp only [X.out,Exit.inBlock,if_neg cJ]
    assumption
   |ret=>exact this
 |.loop c,hd,hp,an,hs,R,e,J,K,r,h=>by
  have key:∀ {T:Type} (bM:List (Nat × Ty)) (l:pd) (Ct:∀ p,p∈bp c l->kA P p.1=some p.2) (KK:X->Env->AH O->Option ((List AV × AH O) ⊕ T)) (hK:∀ e1 J1,KK .norm e1 J1=some (Sum.inl (cW bM e1,J1))) (hK':∀ x e1 J1,x≠.norm->∀ s,KK x e1 J1≠some (Sum.inl s)),
    ∀ (m:Nat) (e0:Env) (J0:AH O) (t:T),fu (fun r:List AV × AH O=>dO bM 0 r.1 (Env.mask (aB c) e) fun e=>exec P G c l e r.2 KK) m (cW bM e0,J0)=some t->
    ∃ x e1 J1,x≠.norm/\KK x e1 J1=some (Sum.inr t)/\∀ (kB:bT) (fp0:Fp) (a0:Act) (w0:World),aC n kB e a0->∀ (ρ:bT) (fp:Fp) (a:Act) (w:World),aC n ρ e0 a->kB.le ρ->(∀ t,t∉aB c->a.tmps.getD t undef=a0.tmps.getD t undef)->
     Rel RO P ρ fp J0 w->∀ Q:Exit->Act->World->Prop,(∀ a' w' aQ fp',aC n aQ e1 a'->(∀ B0,Marks B0 fp w a.defers->Marks B0 fp' w' a'.defers)->(∀ t,t∉aB c->a'.tmps.getD t undef=a0.tmps.getD t undef)->aR RO P (· < J0.next) ρ fp J0 w aQ fp' J1 w'->Q x.out a' w')->
      Code.roundsIn (Fw ro) 0 P c Q m a w:=by
   intro T bM l Ct KK hK hK' m
   induction m with
   |zero=>intro e0 J0 t h;cases h
   |succ m ih=>
    intro e0 J0 t h
    simp only [fu] at h
    have px:∀ y,dO bM 0 (cW bM e0) (Env.mask (aB c) e) (fun e=>exec P G c l e J0 KK)=some y->
      ∃ x e1 J1,KK x e1 J1=some y/\∀ (kB:bT) (fp0:Fp) (a0:Act) (w0:World),aC n kB e a0->∀ (ρ:bT) (fp:Fp) (a:Act) (w:World),aC n ρ e0 a->kB.le ρ->(∀ t,t∉aB c->a.tmps.getD t undef=a0.tmps.getD t undef)->
       Rel RO P ρ fp J0 w->∀ Q:Exit->Act->World->Prop,(∀ a' w' aQ fp',aC n aQ e1 a'->(∀ B0,Marks B0 fp w a.defers->Marks B0 fp' w' a'.defers)->(∀ t,t∉aB c->a'.tmps.getD t undef=a0.tmps.getD t undef)->aR RO P (· < J0.next) ρ fp J0 w aQ fp' J1 w'->Q x.out a' w')->c.wpIn (Fw ro) 0 P Q a w:=by
     intro y hy
     obtain ⟨e',k1,k2⟩:=jT hy
     obtain ⟨x,e1,J1,g1,g2⟩:=dX hG hm c hd hp l Ct e' J0 KK y k1
     refine ⟨x,e1,J1,g1,fun kB fp0 a0 w0 BQ ρ fp a w he hle jy aA Q hQ=>?_⟩
     have hee:aC n ρ e' a:=BQ.join hle he jy k2
     refine g2 ρ fp a w hee aA Q fun a' w' aQ fp' l1 l2 l3 l4=>hQ a' w' aQ fp' l1 l2 (fun t ht=>(l3 t ht).trans (jy t ht)) l4
    rcases tV h with ⟨s,hs,h2⟩ |hs
    ·obtain ⟨x,e1,J1,g1,g2⟩:=px _ hs
     obtain rfl:x=.norm:=by
      cases x with
      |norm=>rfl
      |exit i=>exact absurd g1 (hK' _ _ _ (by simp) _)
      |ret=>exact absurd g1 (hK' _ _ _ (by simp) _)
     rw [hK] at g1
     simp only [Option.some.injEq,Sum.inl.injEq] at g1
     subst g1
     obtain ⟨x,e2,J2,q1,q2,q3⟩:=ih e1 J1 t h2
     refine ⟨x,e2,J2,q1,q2,fun kB fp0 a0 w0 BQ ρ fp a w he hle jy aA Q hQ=>?_⟩
     rw [roundsIn_succ]
     refine g2 kB fp0 a0 w0 BQ ρ fp a w he hle jy aA _ fun a' w' aQ fp' l1 l2 l3 l4=>?_
     refine q3 kB fp0 a0 w0 BQ aQ fp' a' w' l1 (hle.trans l4.le) l3 l4.rel Q fun W7 vI vJ vK m1 m2 m3 m4=>?_
     exact hQ W7 vI vJ vK m1 (fun B0 hm=>m2 B0 (l2 B0 hm)) m3 (l4.trans (m4.mono fun b hb=>Nat.lt_of_lt_of_le hb l4.next))
    ·obtain ⟨x,e1,J1,g1,g2⟩:=px _ hs
     have hx:x≠.norm:=fun e=>by rw [e,hK] at g1;simp at g1
     refine ⟨x,e1,J1,hx,g1,fun kB fp0 a0 w0 BQ ρ fp a w he hle jy aA Q hQ=>?_⟩
     rw [roundsIn_succ]
     refine g2 kB fp0 a0 w0 BQ ρ fp a w he hle jy aA _ fun a' w' aQ fp' l1 l2 l3 l4=>?_
     have:=hQ a' w' aQ fp' l1 l2 l3 l4
     cases x<;>first |exact absurd rfl hx |exact this
  rw [exec.eq_def] at h
  simp only at h
  split at h
  ·rename_i FK bM out l
   obtain ⟨r0,FU,h⟩:=Option.bind_eq_some_iff.1 h
   obtain ⟨m,FW⟩:=nX FU
   obtain ⟨x,e1,J1,hx,q1,q2⟩:=key bM l hs _ (fun _ _=>rfl) (fun x e1 J1 hx s hh=>by
    cases x with
    |norm=>exact hx rfl
    |ret=>cases hh
    |exit i=>simp only at hh;cases hb:Nat.beq i FK<;>rw [hb] at hh<;>simp at hh) m e J r0 FW
   cases x with
   |norm=>exact absurd rfl hx
   |ret=>cases q1
   |exit id=>
    simp only at q1
    obtain ⟨oN,q3⟩:=aF q1
    have oN:=Nat.eq_of_beq_eq_true oN
    subst oN
    simp only [Option.some.injEq,Sum.inr.injEq] at q3
    subst q3
    obtain ⟨e2,k1,k2⟩:=jT h
    refine ⟨.exit id,e2,J1,k1,fun ρ fp a w he aA Q hQ=>wpIn_loop_rounds m ?_⟩
    exact q2 ρ fp a w he ρ fp a w he (bT.le_refl _) (fun _ _=>rfl) aA Q fun a' w' aQ fp' l1 l2 l3 l4=>hQ a' w' aQ fp' (he.join l4.le l1 l3 k2) l2 l3 l4
  ·rename_i FK bM out l
   have Sr:∀ (x:X) (e1:Env) (J1:AH O),x≠.norm->∀ s,(match x with
      |.norm=>some (Sum.inl (cW bM e1,J1))
      |.exit id=>bif Nat.beq id FK then some (Sum.inr (Sum.inl (cW out e1,J1))) else (K (.exit id) e1 J1).map fun r=>Sum.inr (Sum.inr r)
      |.ret=>(K .ret e1 J1).map fun r=>Sum.inr (Sum.inr r):Option ((List AV × AH O) ⊕ ((List AV × AH O) ⊕ R)))≠some (Sum.inl s):=fun x e1 J1 hx s hh=>by
    cases x with
    |norm=>exact hx rfl
    |ret=>simp at hh
    |exit i=>simp only at hh;cases hb:Nat.beq i FK<;>rw [hb] at hh<;>simp at hh
   rcases tV h with ⟨r0,FU,h⟩ |FU
   ·obtain ⟨m,FW⟩:=nX FU
    obtain ⟨x,e1,J1,hx,q1,q2⟩:=key bM l hs _ (fun _ _=>rfl) Sr m e J (Sum.inl r0) FW
    cases x with
    |norm=>exact absurd rfl hx
    |ret=>simp at q1
    |exit id=>
     simp only at q1
     cases oN:Nat.beq id FK with
     |false=>rw [oN] at q1;simp at q1
     |true=>
      rw [oN] at q1
      have oN:=Nat.eq_of_beq_eq_true oN
      subst oN
      simp only [cond_true,Option.some.injEq,Sum.inr.injEq,Sum.inl.injEq] at q1
      subst q1
      obtain ⟨e2,k1,k2⟩:=jT h
      refine ⟨.exit id,e2,J1,k1,fun ρ fp a w he aA Q hQ=>wpIn_loop_rounds m ?_⟩
      exact q2 ρ fp a w he ρ fp a w he (bT.le_refl _) (fun _ _=>rfl) aA Q fun a' w' aQ fp' l1 l2 l3 l4=>hQ a' w' aQ fp' (he.join l4.le l1 l3 k2) l2 l3 l4
   ·obtain ⟨m,FW⟩:=nX FU
    obtain ⟨x,e1,J1,hx,q1,q2⟩:=key bM l hs _ (fun _ _=>rfl) Sr m e J (Sum.inr r) FW
    have fin:K x e1 J1=some r->∃ x e' J',K x e' J'=some r/\md RO P n ro (.loop c) J e x e' J':=fun hk=>
     ⟨x,e1,J1,hk,fun ρ fp a w he aA Q hQ=>wpIn_loop_rounds m (q2 ρ fp a w he ρ fp a w he (bT.le_refl _) (fun _ _=>rfl) aA Q fun a' w' aQ fp' l1 l2 l3 l4=>hQ a' w' aQ fp' l1 l2 l3 l4)⟩
    cases x with
    |norm=>exact absurd rfl hx
    |exit id=>
     simp only at q1
     cases oN:Nat.beq id FK with
     |true=>rw [oN] at q1;simp at q1
     |false=>
      rw [oN] at q1
      simp only [cond_false,Option.map_eq_some_iff,Sum.inr.injEq] at q1
      obtain ⟨r1,q1,e⟩:=q1
      subst e
      exact fin q1
    |ret=>
     simp only [Option.map_eq_some_iff,Sum.inr.injEq] at q1
     obtain ⟨r1,q1,e⟩:=q1
     subst e
     exact fin q1
  ·rename_i head l
   split at h
   ·rename_i z9 ops d mo ca cb body
    split at h
    ·rename_i it tn tm out hlm
     obtain ⟨rfl,-⟩:=wJ hlm
     cases hcnd:(aB (.seq (.region z9 ops false) (.seq (.cond mo ca cb) body))).elem it || head.any (fun s=>Nat.beq s.1 tn || Nat.beq s.1 tm) with
     |true=>rw [hcnd] at h;cases h
     |false=>
     rw [hcnd] at h
     simp only [cond_false] at h
     simp only [Bool.or_eq_false_iff] at hcnd
     obtain ⟨⟨b,m,st,c⟩,hq,h⟩:=Option.bind_eq_some_iff.1 h
     obtain ⟨_,jr,h⟩:=Option.bind_eq_some_iff.1 h
     obtain ⟨t,ht,h⟩:=Option.bind_eq_some_iff.1 h
     simp only at jr ht h
     obtain ⟨es,qt⟩:=(qI jr).2
     have bY:=(qI jr).1
     have W8:b≠m:=fun e=>by rw [e,qt] at bY;cases bY
     have Qz:e it=.p (some (.n b,0)):=by
      unfold WW at hq
      split at hq
      ·rename_i b' dJ
       split at hq
       ·simp only [Option.some.injEq,Prod.mk.injEq] at hq
        rw [dJ,hq.1]
       ·cases hq
      ·cases hq
     have IC:∀ s∈head,s.1≠tn/\s.1≠tm:=fun s ik=>by
      have:=List.any_eq_false.1 hcnd.2 s ik
      simp only [Bool.or_eq_true,not_or,Bool.not_eq_true] at this
      exact ⟨fun e=>by rw [e] at this;simp at this,fun e=>by rw [e] at this;simp at this⟩
     have FX:it∉aB (.seq (.region z9 ops false) (.seq (.cond mo ca cb) body)):=fun FW=>by
      have:=hcnd.1
      rw [List.elem_eq_mem] at this
      simp [FW] at this
     obtain ⟨eF,hK,hF⟩:=kE _ _ _ _ _ _ h
     have W6:jE n body=true:=List.all_eq_true.2 fun q tW=>List.all_eq_true.1 hd q (by simp [aB,tW])
     have Sx:ro=none ∨ plain body=true:=hp.imp id fun h=>by simp only [plain,Bool.and_eq_true] at h;exact h.2.2
     refine ⟨.exit out,eF,t.2.kill b,hK,fun ρ fp a w he aA Q hQ=>wpIn_loop_rounds (st.length+1) ?_⟩
     obtain ⟨L,hL⟩:∃ L,ρ b=some L:=by
      have:=he.get it
      rw [Qz] at this
      generalize a.tmps.getD it undef=u at this
      cases this with
      |p _ _ L hL=>exact ⟨L,hL.nN⟩
     refine FY hlm hd FX Qz W8 (f:=_) (head:=head) ?_ IC ht he hL ?_ st.length [] List.nodup_nil (by simp) (by simp) J e rfl ⟨es,qt⟩ ρ fp a w he (fun _ h=>h) (fun _ _=>rfl) (by rw [AH.me bY];exact aR.refl aA)
     ·intro i dn Jr S' e1 hf
      obtain ⟨e',k1,k2⟩:=jT hf
      obtain ⟨x,e2,J2,g1,g2⟩:=dX hG hm body W6 Sx l (fun p vA=>hs p (by simp only [bp,pd.l,pd.r,List.mem_append];exact .inr (.inr vA))) _ _ _ S' k1
      cases x with
      |norm=>
       simp only at g1
       obtain ⟨_,g3,g4⟩:=Option.bind_eq_some_iff.1 g1
       cases g4
       exact ⟨e',e2,J2,k2,g2,g3,rfl⟩
      |exit id=>cases g1
      |ret=>cases g1
     ·intro a' w' aQ fp' e1 Ml l1 l2 l3 l4
      refine hQ a' w' aQ fp' ?_ l2 l3 l4
      refine he.join l4.le l1 l3 fun q=>?_
      rcases hF q with h3 |⟨j,ty,h3,h4⟩
      ·rw [Env.Ai] at h3
       by_cases tW:q∈aB (.seq (.region z9 ops false) (.seq (.cond mo ca cb) body))
       ·rw [if_pos tW] at h3;exact .inr (.inl h3)
       ·rw [if_neg tW] at h3;exact .inr (.inr ⟨tW,h3⟩)
      ·left;rw [h4,<-Ml,Nat.zero_add,wK h3]
    ·cases h
   ·cases h
  ·cases h
 |.scope c,hd,hp,an,hs,R,e,J,K,r,h=>by
  simp only [exec] at h
  obtain ⟨x,e1,J1,g1,g2⟩:=dX hG hm c hd hp an.l hs e J K r h
  refine ⟨x,e1,J1,g1,fun ρ fp a w he aA Q hQ=>ny (g2 ρ fp a w he aA _ fun a' w' aQ fp' k1 k2 k3 k4=>?_)⟩
  have:=hQ a' w' aQ fp' k1 k2 k3 k4
  cases x<;>exact this
 |.rangeFunc g ps W9 body,hd,hp,an,hs,R,e,J,K,r,h=>by
  have hro:ro=none:=hp.resolve_right (by simp [plain])
  subst hro
  simp only [exec] at h
  split at h
  ·rename_i site bM outs
   split at h
   ·rename_i f HB
    obtain ⟨⟨v1,J1⟩,hc,h'⟩:=Option.bind_eq_some_iff.1 h
    clear h
    obtain ⟨c,fi,ca,rfl⟩:∃ c fi ca,f=some (.func c,fi,ca):=by
     unfold Il at hc
     split at hc
     ·rename_i c fi ca;exact ⟨c,fi,ca,rfl⟩
     ·cases hc
    replace hc:qA G (c+tI) (fi++[.fn (some (.yield J.next,[],[]))]++ca) ((J.ax 1).put J.next (.loop site (bM.map fun t=>(t,e t)) .ready))=some (v1,J1):=hc
    obtain ⟨s,hl,h⟩:=Option.bind_eq_some_iff.1 h'
    simp only at hl h
    have Xa:kA P site=some (ps,W9,body):=hs (site,(ps,W9,body)) (by simp [bp])
    obtain ⟨x,hk,hx⟩:∃ x,K x e (J1.kill J.next)=some r/\((x=.norm/\s=0) ∨ (x=Vc s/\3<=s)):=by
     cases h0:Nat.beq s 0 with
     |true=>rw [h0] at h;exact ⟨.norm,h,.inl ⟨rfl,Nat.eq_of_beq_eq_true h0⟩⟩
     |false=>rw [h0] at h;obtain ⟨h1,h2⟩:=tX h;exact ⟨Vc s,h2,.inr ⟨rfl,h1⟩⟩
    obtain ⟨c',qF,Sy,af7⟩:∃ c',c+tI=c'+tI/\ag P c'/\ah RO P c' (qA G (c+tI)):=by
     rcases nY hG hc with ⟨h0,_⟩ |⟨h0,_⟩ |⟨h0,_⟩ |h
     ·simp only [kx,tI] at h0;omega
     ·simp only [kx,tI] at h0;omega
     ·simp only [kx,tI] at h0;omega
     ·exact h
    obtain rfl:c=c':=Nat.add_right_cancel qF
    refine ⟨x,e,J1.kill J.next,hk,fun ρ fp a w he aA Q hQ=>?_⟩
    refine wpIn_rangeFunc fun fn _=>?_
    have hg:=he.ev g
    rw [HB] at hg
    obtain ⟨yj,yk,uf,hfi,hca⟩:=hg.Cv
    have sV:aR RO P (· < J.next) ρ fp J w ρ fp J (w.alloc (.deferred (some []))):=aR.more aA (fun B hB=>Go.heap_alloc_old w _ hB) (by simp) rfl rfl rfl
    have af8:(w.alloc (.deferred (some []))).heap.size=w.heap.size+1:=by simp
    let r0:Loop:={state:=.ready,pending:=none,fn:=fn,tmps:=a.tmps,params:=ps,assign:=W9,body:=body,defers:=w.heap.size}
    obtain ⟨QA,vL,Xb,sT⟩:=aR.Cw (J:=J.ax 1) (nid:=J.next) (sV.rel.ax 1) (Nat.lt_succ_self _) (aA.next _ (Nat.le_refl _)).1 (.loop r0) (.loop site (bM.map fun t=>(t,e t)) .ready) ⟨(w.alloc (.deferred (some []))).heap.size,0,0,0⟩ (fun aQ hle w'=>
     ⟨r0,(ps,W9,body),rfl,Xa,rfl,rfl,rfl,⟨rfl,rfl⟩,fun t ht=>by rw [show r0.tmps.size=n from he.size];exact jx hd t ht,fun t v hm=>by
      simp only [List.mem_map,Prod.mk.injEq] at hm
      obtain ⟨t',_,rfl,rfl⟩:=hm
      exact (he.get t').mono hle⟩)
    have hargs:aL QA (fi++[.fn (some (.yield J.next,[],[]))]++ca) (yj.toArray ++ #[Value.func (.yield (w.alloc (.deferred (some []))).heap.size) #[] #[]]++yk.toArray).toList:=by
     simp only [Array.toList_append]
     exact ((hfi.mono sT.le).append (.cons _ _ _ _ (.yl _ _ (.n _ _ Xb)) .nil)).append (hca.mono sT.le)
    have Xc:=af7 _ _ _ _ hc QA vL _ (yj.toArray ++ #[Value.func (.yield (w.alloc (.deferred (some []))).heap.size) #[] #[]]++yk.toArray) hargs sT.rel
    refine ⟨(w.alloc (.deferred (some []))).heap.size,[{target:=.collected w.heap.size,args := #[]}],(w.alloc (.deferred (some []))).alloc (.loop r0),{target:=.fn (.func c) yk.toArray,args:=yj.toArray ++ #[Value.func (.yield (w.alloc (.deferred (some []))).heap.size) #[] #[]]},(w.alloc (.deferred (some []))).alloc (.loop r0),c,yj.toArray ++ #[Value.func (.yield (w.alloc (.deferred (some []))).heap.size) #[] #[]]++yk.toArray,(w.alloc (.deferred (some []))).alloc (.loop r0),?_,?_,fun _ _=>trivial,?_,fun h=>(Bool.false_ne_true h).elim,nZ.2 (Xc.mono ?_)⟩
    ·rw [af8];exact run_enterLoop_outer fn a.tmps ps W9 body
    ·have ec:a.eval (.const (Value.func (.yield (w.alloc (.deferred (some []))).heap.size) #[] #[]))=Value.func (.yield (w.alloc (.deferred (some []))).heap.size) #[] #[]:=rfl
     simp [resolve,uf,Deferred.ofValue]
     rfl
    ·exact Sy _ _
    rintro xx w3 ⟨BR,BS,u,rfl,hu,qu⟩
    obtain ⟨Eg,Nq,st,vH,gh⟩:∃ Eg Nq st,J1.aa J.next=some (.loop Eg Nq st)/\st.code=s:=by
     unfold WZ at hl
     split at hl
     ·rename_i s' e' Hz hb;exact ⟨s',e',Hz,hb,by simpa using hl⟩
     ·cases hl
    have hL2:=qu.le.l _ _ Xb
    obtain ⟨r3,x3,g1,g2,g3,g4,g5,g6,g7,g8⟩:=qu.rel.aa _ _ _ vH hL2
    have QB:w3.heap[(w.alloc (.deferred (some []))).heap.size]? = some (.loop r3):=qu.rel.has _ _ _ (by rw [g1];exact bq _ _)
    obtain ⟨Cs,Vi⟩:=aR.Aj (S:=(· < J.next)) qu.rel vH hL2 g1 (x1:=.loop Eg Nq .gone) (ob':=.loop {r3 with state:=.exhausted}) (fun w'=>⟨{r3 with state:=.exhausted},x3,rfl,g2,g3,g4,g5,trivial,g7,g8⟩)
    obtain ⟨fp4,hp4⟩:=aR.kill (S:=(· < J.next)) Vi.rel J.next
    have ek:(J1.put J.next (.loop Eg Nq .gone)).kill J.next=J1.kill J.next:=by
     simp only [AH.put,AH.kill,AH.mk.injEq,and_true]
     funext q
     cases Nat.beq q J.next<;>rfl
    rw [ek] at hp4
    have T1:aR RO P (· < J.next) ρ fp J (w.alloc (.deferred (some []))) BR fp4 (J1.kill J.next) (w3.putObj (w.alloc (.deferred (some []))).heap.size (.loop {r3 with state:=.exhausted})):=
     aR.yg ((sT.mono fun b (hb:b<J.next)=>by omega).trans ((qu.mono fun b (hb:b<J.next)=>Nat.lt_succ_of_lt hb).trans (Vi.trans hp4)))
    have T:=sV.trans T1
    have hE:aC n BR e ({a with defers:=[{target:=.collected w.heap.size,args := #[]}]++a.defers}:Act):=⟨he.size,fun t=>(he.get t).mono T.le⟩
    have hM:∀ B0,Marks B0 fp w a.defers->Marks B0 fp4 (w3.putObj (w.alloc (.deferred (some []))).heap.size (.loop {r3 with state:=.exhausted})) ([{target:=.collected w.heap.size,args := #[]}]++a.defers):=fun B0 hm=>by
     have m1:=hm.post sV
     refine Marks.post (S:=(· < J.next)) ⟨m1.sz,?_,fun d kC=>?_⟩ T1
     ·simp only [List.cons_append,List.nil_append,List.map_cons,List.nodup_cons]
      refine ⟨fun Cx=>?_,hm.nd⟩
      obtain ⟨d,Nr,Xd⟩:=List.mem_map.1 Cx
      obtain ⟨r,k1,_,k3,_⟩:=hm.it d Nr
      rw [k1] at Xd
      cases Xd
      have:=(Array.getElem?_eq_some_iff.1 k3).1
      omega
     ·rcases List.mem_append.1 kC with kC |kC
      ·simp only [List.mem_singleton] at kC
       subst kC
       refine ⟨w.heap.size,rfl,hm.sz,heap_alloc_new w _,fun b=>?_⟩
       cases hb:fp b w.heap.size with
       |none=>rfl
       |some o=>have:=aA.size (b:=b) (B:=w.heap.size) (by rw [hb];simp);omega
      ·exact m1.it d kC
    have done:∀ {x:X} {Q':Exit->Act->World->Prop},Q'=Q->K x e (J1.kill J.next)=some r->True:=fun _ _=>trivial
    have hq:=hQ _ _ BR fp4 hE hM (fun _ _=>rfl) T
    cases st with
    |ready=>
     obtain ⟨k1,k2⟩:=g6
     refine ⟨none,_,by rw [<-k2];exact run_endLoop QB (by rw [k1];simp),?_⟩
     rcases hx with ⟨rfl,_⟩ |⟨_,h3⟩
     ·exact hq
     ·simp only [Nd.code] at gh;omega
    |busy=>rcases hx with ⟨_,h3⟩ |⟨_,h3⟩<;>simp only [Nd.code] at gh<;>omega
    |gone=>rcases hx with ⟨_,h3⟩ |⟨_,h3⟩<;>simp only [Nd.code] at gh<;>omega
    |done j=>
     obtain ⟨k1,k2⟩:=g6
     refine ⟨some (QC j),_,by rw [<-k2];exact run_endLoop QB (by rw [k1];simp),?_⟩
     cases j with
     |none=>
      simp only [Nd.code] at gh
      rcases hx with ⟨_,h3⟩ |⟨rfl,_⟩
      ·omega
      ·subst gh
       exact wpIn_ret hq
     |some id=>
      simp only [Nd.code] at gh
      rcases hx with ⟨_,h3⟩ |⟨rfl,_⟩
      ·omega
      ·subst gh
       have:Vc (id+4)=.exit id:=by unfold Vc;rw [if_neg (by omega)];congr 1
       rw [this] at hq
       exact wpIn_exit hq
   ·cases h
  ·cases h
 |.goto _,_,_,an,_,R,e,J,K,r,h=>by cases h
 |.refuse _,_,_,an,_,R,e,J,K,r,h=>by cases h
end Go.Abs
