/-
  AbsExec: a function's text does what 'exec' says.
-/
import Derived.Test.YtlgnboohmahbaaaGreatDoorAbsIter
set_option linter.unusedVariables false
set_option linter.unusedSimpArgs false
set_option linter.constructorNameAsVariable false
namespace Go.Abs
open Go
variable {O:Type} {RO:O → Loc → (Nat → Option Obj) → Prop} {P:Program} {G:List (Nat × Sm O)} {n:Nat}
theorem ej (hG:dJ RO P G) (hm:P.follows .mixedOrders=true) {ro:Option Nat}:∀ (c:Code),rK n c=true → (ro=none ∨ plain c=true) → ∀ (an:Di),(∀ p,p∈bH c an → pN P p.1=some p.2) → ∀ {R:Type} (e:Env) (σ:AH O) (K:X → Env → AH O → Option R) (r:R),exec P G c an e σ K=some r →
  ∃ x e' aj,K x e' aj=some r ∧ BE RO P n ro c σ e x e' aj
 |.skip,_,_,an,_,R,e,σ,K,r,h=>⟨.norm,e,σ,h,fun ρ fp a w he aC Q hQ=>wpIn_skip (hQ a w ρ fp he (fun _ h=>h) (fun _ _=>rfl) (aO.refl aC))⟩
 |.label _,_,_,an,_,R,e,σ,K,r,h=>⟨.norm,e,σ,h,fun ρ fp a w he aC Q hQ=>wpIn_label (hQ a w ρ fp he (fun _ h=>h) (fun _ _=>rfl) (aO.refl aC))⟩
 |.exit id,_,_,an,_,R,e,σ,K,r,h=>⟨.exit id,e,σ,h,fun ρ fp a w he aC Q hQ=>wpIn_exit (hQ a w ρ fp he (fun _ h=>h) (fun _ _=>rfl) (aO.refl aC))⟩
 |.ret,_,_,an,_,R,e,σ,K,r,h=>⟨.ret,e,σ,h,fun ρ fp a w he aC Q hQ=>wpIn_ret (hQ a w ρ fp he (fun _ h=>h) (fun _ _=>rfl) (aO.refl aC))⟩
 |.region id ops d,hd,hp,an,hs,R,e,σ,K,r,h=>by
  have oN:∀ (i:Nat) (o:Oper) (t:Nat),ops.toList[i]? = some o → o.dst=some t → t<n:=fun i o t ho ht=>tO hd t (yd ho ht)
  cases d with
  |false=>
   obtain ⟨e',aj,h1,h2⟩:=Ie hG (id:=id) oN h
   exact ⟨.norm,e',aj,h1,fun ρ fp a w he aC Q hQ=>h2 ρ fp a w he aC ro Q fun a' w' aR fp' k1 k2 k3 k4=>hQ a' w' aR fp' k1 (fun B0 hm=>by rw [k2];exact hm.post k4) k3 k4⟩
  |true=>
   obtain ⟨e',aj,h1,h2⟩:=Gx hG hm (id:=id) oN h
   exact ⟨.norm,e',aj,h1,fun ρ fp a w he aC Q hQ=>h2 ρ fp a w he aC ro Q fun a' w' aR fp' k1 k2 k3 k4=>hQ a' w' aR fp' k1 (fun B0 hm=>by rw [k2];exact hm.post k4) k3 k4⟩
 |.seq a b,hd,hp,an,hs,R,e,σ,K,r,h=>by
  have hpa:ro=none ∨ plain a=true:=hp.imp id fun h=>by simp only [plain,Bool.and_eq_true] at h;exact h.1
  have hpb:ro=none ∨ plain b=true:=hp.imp id fun h=>by simp only [plain,Bool.and_eq_true] at h;exact h.2
  have hsa:∀ p,p∈bH a an.l → pN P p.1=some p.2:=fun p h=>hs p (by simp only [bH,List.mem_append];exact .inl h)
  have hsb:∀ p,p∈bH b an.r → pN P p.1=some p.2:=fun p h=>hs p (by simp only [bH,List.mem_append];exact .inr h)
  have hda:rK n a=true:=List.all_eq_true.2 fun t ht=>List.all_eq_true.1 hd t (by simp [aF,ht])
  have hdb:rK n b=true:=List.all_eq_true.2 fun t ht=>List.all_eq_true.1 hd t (by simp [aF,ht])
  obtain ⟨x,e1,aJ,h1,h2⟩:=ej hG hm a hda hpa an.l hsa e σ _ r h
  have other:x≠.norm → K x e1 aJ=some r → ∃ x e' aj,K x e' aj=some r ∧ BE RO P n ro (.seq a b) σ e x e' aj:=fun hx hk=>by
   refine ⟨x,e1,aJ,hk,fun ρ fp ac w he aC Q hQ=>wpIn_seq (h2 ρ fp ac w he aC _ fun a' w' aR fp' k1 k2 k3 k4=>?_)⟩
   have:=hQ a' w' aR fp' k1 k2 (fun t ht=>k3 t (fun h=>ht (by simp [aF,h]))) k4
   cases x<;>first |exact this |exact absurd rfl hx
  cases x with
  |norm=>
   simp only at h1
   obtain ⟨x,e2,aP,h3,h4⟩:=ej hG hm b hdb hpb an.r hsb e1 aJ K r h1
   refine ⟨x,e2,aP,h3,fun ρ fp ac w he aC Q hQ=>wpIn_seq (h2 ρ fp ac w he aC _ fun a' w' aR fp' k1 k2 k3 k4=>?_)⟩
   refine h4 aR fp' a' w' k1 k4.rel Q fun a'' Oi Oj Ol l1 l2 l3 l4=>?_
   refine hQ a'' Oi Oj Ol l1 (fun B0 hm=>l2 B0 (k2 B0 hm)) (fun t ht=>(l3 t (fun h=>ht (by simp [aF,h]))).trans (k3 t (fun h=>ht (by simp [aF,h])))) ?_
   exact k4.trans (l4.mono fun b hb=>Nat.lt_of_lt_of_le hb k4.next)
  |exit id=>exact other (by simp) h1
  |ret=>exact other (by simp) h1
 |.cond c a b,hd,hp,an,hs,R,e,σ,K,r,h=>by
  have hpa:ro=none ∨ plain a=true:=hp.imp id fun h=>by simp only [plain,Bool.and_eq_true] at h;exact h.1
  have hpb:ro=none ∨ plain b=true:=hp.imp id fun h=>by simp only [plain,Bool.and_eq_true] at h;exact h.2
  have hsa:∀ p,p∈bH a an.l → pN P p.1=some p.2:=fun p h=>hs p (by simp only [bH,List.mem_append];exact .inl h)
  have hsb:∀ p,p∈bH b an.r → pN P p.1=some p.2:=fun p h=>hs p (by simp only [bH,List.mem_append];exact .inr h)
  have hda:rK n a=true:=List.all_eq_true.2 fun t ht=>List.all_eq_true.1 hd t (by simp [aF,ht])
  have hdb:rK n b=true:=List.all_eq_true.2 fun t ht=>List.all_eq_true.1 hd t (by simp [aF,ht])
  simp only [exec] at h
  split at h
  ·rename_i t ht
   have agR:∀ {x e' aj},BE RO P n ro (if t=true then a else b) σ e x e' aj → BE RO P n ro (.cond c a b) σ e x e' aj:=fun {x e' aj} hh ρ fp ac w he aC Q hQ=>by
    have hc:ac.eval c=.bool t:=by
     have:=he.ev c;rw [ht] at this;exact this.Pk
    refine wpIn_cond hc (hh ρ fp ac w he aC Q fun a' w' aR fp' k1 k2 k3 k4=>hQ a' w' aR fp' k1 k2 (fun q hq=>k3 q (fun h=>hq ?_)) k4)
    cases t
    ·simp only [Bool.false_eq_true,if_false] at h;simp [aF,h]
    ·simp only [if_true] at h;simp [aF,h]
   obtain ⟨x,e1,aJ,h1,h2⟩:=LC (D:=fun x e' aj=>BE RO P n ro (.cond c a b) σ e x e' aj) (fun {R} K r hb=>by
    cases t with
    |true=>
     obtain ⟨x,e',aj,g1,g2⟩:=ej hG hm a hda hpa an.l hsa e σ K r (Di.SP hb)
     exact ⟨x,e',aj,g1,agR (by simpa using g2)⟩
    |false=>
     obtain ⟨x,e',aj,g1,g2⟩:=ej hG hm b hdb hpb an.r hsb e σ K r (Di.SP hb)
     exact ⟨x,e',aj,g1,agR (by simpa using g2)⟩) h
   rcases h2 with ⟨hx,e2,g1,g2⟩ |⟨hx,g1⟩
   ·obtain rfl:x=.norm:=by cases x<;>first |rfl |cases hx
    exact ⟨.norm,e2,aJ,g1,fun ρ fp ac w he aC Q hQ=>h1 ρ fp ac w he aC Q fun a' w' aR fp' k1 k2 k3 k4=>hQ a' w' aR fp' (he.join k4.le k1 k3 g2) k2 k3 k4⟩
   ·exact ⟨x,e1,aJ,g1,h1⟩
  ·cases h
 |.block id c,hd,hp,an,hs,R,e,σ,K,r,h=>by
  simp only [exec] at h
  obtain ⟨x,e1,aJ,h1,h2⟩:=LC (D:=fun x e' aj=>BE RO P n ro c σ e x e' aj) (fun {R} K r hb=>by
   obtain ⟨x,e',aj,g1,g2⟩:=ej hG hm c hd hp an.l hs e σ K r hb
   exact ⟨x,e',aj,g1,g2⟩) h
  rcases h2 with ⟨hx,e2,g1,g2⟩ |⟨hx,g1⟩
  ·refine ⟨.norm,e2,aJ,g1,fun ρ fp ac w he aC Q hQ=>wpIn_block (h1 ρ fp ac w he aC _ fun a' w' aR fp' k1 k2 k3 k4=>?_)⟩
   have:=hQ a' w' aR fp' (he.join k4.le k1 k3 g2) k2 k3 k4
   cases x with
   |norm=>exact this
   |exit i=>
    have:i=id:=Nat.eq_of_beq_eq_true hx
    subst this
    simp only [X.out,Exit.inBlock,if_true]
    assumption
   |ret=>cases hx
  ·refine ⟨x,e1,aJ,g1,fun ρ fp ac w he aC Q hQ=>wpIn_block (h1 ρ fp ac w he aC _ fun a' w' aR fp' k1 k2 k3 k4=>?_)⟩
   have:=hQ a' w' aR fp' k1 k2 k3 k4
   cases x with
   |norm=>cases hx
   |exit i=>
    have jL:i≠id:=fun e=>by subst e;simp [X.agL] at hx
    simp only [X.out,Exit.inBlock,if_neg jL]
    assumption
   |ret=>exact this
 |.loop c,hd,hp,an,hs,R,e,σ,K,r,h=>by
  have key:∀ {T:Type} (cf:List (Nat × Ty)) (l:Di) (hsl:∀ p,p∈bH c l → pN P p.1=some p.2) (KK:X → Env → AH O → Option ((List AV × AH O) ⊕ T)) (hK:∀ e1 aJ,KK .norm e1 aJ=some (Sum.inl (ei cf e1,aJ))) (hK':∀ x e1 aJ,x≠.norm → ∀ s,KK x e1 aJ≠some (Sum.inl s)),
    ∀ (m:Nat) (e0:Env) (gJ:AH O) (t:T),iF (fun r:List AV × AH O=>eI cf 0 r.1 (Env.mask (aF c) e) fun e=>exec P G c l e r.2 KK) m (ei cf e0,gJ)=some t →
    ∃ x e1 aJ,x≠.norm ∧ KK x e1 aJ=some (Sum.inr t) ∧ ∀ (yc:cl) (fp0:Fp) (a0:Act) (w0:World),aH n yc e a0 → ∀ (ρ:cl) (fp:Fp) (a:Act) (w:World),aH n ρ e0 a → yc.le ρ → (∀ t,t∉aF c → a.tmps.getD t undef=a0.tmps.getD t undef) →
     Rel RO P ρ fp gJ w → ∀ Q:Exit → Act → World → Prop,(∀ a' w' aR fp',aH n aR e1 a' → (∀ B0,Marks B0 fp w a.defers → Marks B0 fp' w' a'.defers) → (∀ t,t∉aF c → a'.tmps.getD t undef=a0.tmps.getD t undef) → aO RO P (· < gJ.next) ρ fp gJ w aR fp' aJ w' → Q x.out a' w') →
      Code.roundsIn (Fw ro) 0 P c Q m a w:=by
   intro T cf l hsl KK hK hK' m
   induction m with
   |zero=>intro e0 gJ t h;cases h
   |succ m ih=>
    intro e0 gJ t h
    simp only [iF] at h
    have Pl:∀ y,eI cf 0 (ei cf e0) (Env.mask (aF c) e) (fun e=>exec P G c l e gJ KK)=some y →
      ∃ x e1 aJ,KK x e1 aJ=some y ∧ ∀ (yc:cl) (fp0:Fp) (a0:Act) (w0:World),aH n yc e a0 → ∀ (ρ:cl) (fp:Fp) (a:Act) (w:World),aH n ρ e0 a → yc.le ρ → (∀ t,t∉aF c → a.tmps.getD t undef=a0.tmps.getD t undef) →
       Rel RO P ρ fp gJ w → ∀ Q:Exit → Act → World → Prop,(∀ a' w' aR fp',aH n aR e1 a' → (∀ B0,Marks B0 fp w a.defers → Marks B0 fp' w' a'.defers) → (∀ t,t∉aF c → a'.tmps.getD t undef=a0.tmps.getD t undef) → aO RO P (· < gJ.next) ρ fp gJ w aR fp' aJ w' → Q x.out a' w') → c.wpIn (Fw ro) 0 P Q a w:=by
     intro y hy
     obtain ⟨e',k1,k2⟩:=wx hy
     obtain ⟨x,e1,aJ,g1,g2⟩:=ej hG hm c hd hp l hsl e' gJ KK y k1
     refine ⟨x,e1,aJ,g1,fun yc fp0 a0 w0 he0 ρ fp a w he hle tP aC Q hQ=>?_⟩
     have hee:aH n ρ e' a:=he0.join hle he tP k2
     refine g2 ρ fp a w hee aC Q fun a' w' aR fp' l1 l2 l3 l4=>hQ a' w' aR fp' l1 l2 (fun t ht=>(l3 t ht).trans (tP t ht)) l4
    rcases LD h with ⟨s,hs,h2⟩ |hs
    ·obtain ⟨x,e1,aJ,g1,g2⟩:=Pl _ hs
     obtain rfl:x=.norm:=by
      cases x with
      |norm=>rfl
      |exit i=>exact absurd g1 (hK' _ _ _ (by simp) _)
      |ret=>exact absurd g1 (hK' _ _ _ (by simp) _)
     rw [hK] at g1
     simp only [Option.some.injEq,Sum.inl.injEq] at g1
     subst g1
     obtain ⟨x,e2,aP,q1,q2,q3⟩:=ih e1 aJ t h2
     refine ⟨x,e2,aP,q1,q2,fun yc fp0 a0 w0 he0 ρ fp a w he hle tP aC Q hQ=>?_⟩
     rw [roundsIn_succ]
     refine g2 yc fp0 a0 w0 he0 ρ fp a w he hle tP aC _ fun a' w' aR fp' l1 l2 l3 l4=>?_
     refine q3 yc fp0 a0 w0 he0 aR fp' a' w' l1 (hle.trans l4.le) l3 l4.rel Q fun a'' Oi Oj Ol m1 m2 m3 m4=>?_
     exact hQ a'' Oi Oj Ol m1 (fun B0 hm=>m2 B0 (l2 B0 hm)) m3 (l4.trans (m4.mono fun b hb=>Nat.lt_of_lt_of_le hb l4.next))
    ·obtain ⟨x,e1,aJ,g1,g2⟩:=Pl _ hs
     have hx:x≠.norm:=fun e=>by rw [e,hK] at g1;simp at g1
     refine ⟨x,e1,aJ,hx,g1,fun yc fp0 a0 w0 he0 ρ fp a w he hle tP aC Q hQ=>?_⟩
     rw [roundsIn_succ]
     refine g2 yc fp0 a0 w0 he0 ρ fp a w he hle tP aC _ fun a' w' aR fp' l1 l2 l3 l4=>?_
     have:=hQ a' w' aR fp' l1 l2 l3 l4
     cases x<;>first |exact absurd rfl hx |exact this
  rw [exec.eq_def] at h
  simp only at h
  split at h
  ·rename_i Yi cf out l
   obtain ⟨r0,Yr,h⟩:=Option.bind_eq_some_iff.1 h
   obtain ⟨m,hm'⟩:=ye Yr
   obtain ⟨x,e1,aJ,hx,q1,q2⟩:=key cf l hs _ (fun _ _=>rfl) (fun x e1 aJ hx s hh=>by
    cases x with
    |norm=>exact hx rfl
    |ret=>cases hh
    |exit i=>simp only at hh;cases hb:Nat.beq i Yi<;>rw [hb] at hh<;>simp at hh) m e σ r0 hm'
   cases x with
   |norm=>exact absurd rfl hx
   |ret=>cases q1
   |exit id=>
    simp only at q1
    obtain ⟨hid,q3⟩:=aD q1
    have hid:=Nat.eq_of_beq_eq_true hid
    subst hid
    simp only [Option.some.injEq,Sum.inr.injEq] at q3
    subst q3
    obtain ⟨e2,k1,k2⟩:=wx h
    refine ⟨.exit id,e2,aJ,k1,fun ρ fp a w he aC Q hQ=>wpIn_loop_rounds m ?_⟩
    exact q2 ρ fp a w he ρ fp a w he (cl.le_refl _) (fun _ _=>rfl) aC Q fun a' w' aR fp' l1 l2 l3 l4=>hQ a' w' aR fp' (he.join l4.le l1 l3 k2) l2 l3 l4
  ·rename_i Yi cf out l
   have hno:∀ (x:X) (e1:Env) (aJ:AH O),x≠.norm → ∀ s,(match x with
      |.norm=>some (Sum.inl (ei cf e1,aJ))
      |.exit id=>bif Nat.beq id Yi then some (Sum.inr (Sum.inl (ei out e1,aJ))) else (K (.exit id) e1 aJ).map fun r=>Sum.inr (Sum.inr r)
      |.ret=>(K .ret e1 aJ).map fun r=>Sum.inr (Sum.inr r):Option ((List AV × AH O) ⊕ ((List AV × AH O) ⊕ R)))≠some (Sum.inl s):=fun x e1 aJ hx s hh=>by
    cases x with
    |norm=>exact hx rfl
    |ret=>simp at hh
    |exit i=>simp only at hh;cases hb:Nat.beq i Yi<;>rw [hb] at hh<;>simp at hh
   rcases LD h with ⟨r0,Yr,h⟩ |Yr
   ·obtain ⟨m,hm'⟩:=ye Yr
    obtain ⟨x,e1,aJ,hx,q1,q2⟩:=key cf l hs _ (fun _ _=>rfl) hno m e σ (Sum.inl r0) hm'
    cases x with
    |norm=>exact absurd rfl hx
    |ret=>simp at q1
    |exit id=>
     simp only at q1
     cases hid:Nat.beq id Yi with
     |false=>rw [hid] at q1;simp at q1
     |true=>
      rw [hid] at q1
      have hid:=Nat.eq_of_beq_eq_true hid
      subst hid
      simp only [cond_true,Option.some.injEq,Sum.inr.injEq,Sum.inl.injEq] at q1
      subst q1
      obtain ⟨e2,k1,k2⟩:=wx h
      refine ⟨.exit id,e2,aJ,k1,fun ρ fp a w he aC Q hQ=>wpIn_loop_rounds m ?_⟩
      exact q2 ρ fp a w he ρ fp a w he (cl.le_refl _) (fun _ _=>rfl) aC Q fun a' w' aR fp' l1 l2 l3 l4=>hQ a' w' aR fp' (he.join l4.le l1 l3 k2) l2 l3 l4
   ·obtain ⟨m,hm'⟩:=ye Yr
    obtain ⟨x,e1,aJ,hx,q1,q2⟩:=key cf l hs _ (fun _ _=>rfl) hno m e σ (Sum.inr r) hm'
    have fin:K x e1 aJ=some r → ∃ x e' aj,K x e' aj=some r ∧ BE RO P n ro (.loop c) σ e x e' aj:=fun hk=>
     ⟨x,e1,aJ,hk,fun ρ fp a w he aC Q hQ=>wpIn_loop_rounds m (q2 ρ fp a w he ρ fp a w he (cl.le_refl _) (fun _ _=>rfl) aC Q fun a' w' aR fp' l1 l2 l3 l4=>hQ a' w' aR fp' l1 l2 l3 l4)⟩
    cases x with
    |norm=>exact absurd rfl hx
    |exit id=>
     simp only at q1
     cases hid:Nat.beq id Yi with
     |true=>rw [hid] at q1;simp at q1
     |false=>
      rw [hid] at q1
      simp only [cond_false,Option.map_eq_some_iff,Sum.inr.injEq] at q1
      obtain ⟨r1,q1,e⟩:=q1
      subst e
      exact fin q1
    |ret=>
     simp only [Option.map_eq_some_iff,Sum.inr.injEq] at q1
     obtain ⟨r1,q1,e⟩:=q1
     subst e
     exact fin q1
  ·rename_i head l
   split at h
   ·rename_i SQ ops d mo ca cb body
    split at h
    ·rename_i it tn tm out hlm
     obtain ⟨rfl,-⟩:=Pm hlm
     cases hcnd:(aF (.seq (.region SQ ops false) (.seq (.cond mo ca cb) body))).elem it || head.any (fun s=>Nat.beq s.1 tn || Nat.beq s.1 tm) with
     |true=>rw [hcnd] at h;cases h
     |false=>
     rw [hcnd] at h
     simp only [cond_false] at h
     simp only [Bool.or_eq_false_iff] at hcnd
     obtain ⟨⟨b,m,st,c⟩,hq,h⟩:=Option.bind_eq_some_iff.1 h
     obtain ⟨_,H7,h⟩:=Option.bind_eq_some_iff.1 h
     obtain ⟨t,ht,h⟩:=Option.bind_eq_some_iff.1 h
     simp only at H7 ht h
     obtain ⟨es,HZ⟩:=(Ig H7).2
     have hbl:=(Ig H7).1
     have hbm:b≠m:=fun e=>by rw [e,HZ] at hbl;cases hbl
     have heb:e it=.p (some (.n b,0)):=by
      unfold ahP at hq
      split at hq
      ·rename_i b' oP
       split at hq
       ·simp only [Option.some.injEq,Prod.mk.injEq] at hq
        rw [oP,hq.1]
       ·cases hq
      ·cases hq
     have aau:∀ s∈head,s.1≠tn ∧ s.1≠tm:=fun s hs'=>by
      have:=List.any_eq_false.1 hcnd.2 s hs'
      simp only [Bool.or_eq_true,not_or,Bool.not_eq_true] at this
      exact ⟨fun e=>by rw [e] at this;simp at this,fun e=>by rw [e] at this;simp at this⟩
     have hit:it∉aF (.seq (.region SQ ops false) (.seq (.cond mo ca cb) body)):=fun hm'=>by
      have:=hcnd.1
      rw [List.elem_eq_mem] at this
      simp [hm'] at this
     obtain ⟨eF,hK,hF⟩:=lO _ _ _ _ _ _ h
     have hdb:rK n body=true:=List.all_eq_true.2 fun q LF=>List.all_eq_true.1 hd q (by simp [aF,LF])
     have hpb:ro=none ∨ plain body=true:=hp.imp id fun h=>by simp only [plain,Bool.and_eq_true] at h;exact h.2.2
     refine ⟨.exit out,eF,t.2.kill b,hK,fun ρ fp a w he aC Q hQ=>wpIn_loop_rounds (st.length+1) ?_⟩
     obtain ⟨L,hL⟩:∃ L,ρ b=some L:=by
      have:=he.get it
      rw [heb] at this
      generalize a.tmps.getD it undef=u at this
      cases this with
      |p _ _ L hL=>exact ⟨L,hL.tQ⟩
     refine Ys hlm hd hit heb hbm (f:=_) (head:=head) ?_ aau ht he hL ?_ st.length [] List.nodup_nil (by simp) (by simp) σ e rfl ⟨es,HZ⟩ ρ fp a w he (fun _ h=>h) (fun _ _=>rfl) (by rw [AH.S3 hbl];exact aO.refl aC)
     ·intro i dn Vh S' e1 hf
      obtain ⟨e',k1,k2⟩:=wx hf
      obtain ⟨x,e2,aP,g1,g2⟩:=ej hG hm body hdb hpb l (fun p N9=>hs p (by simp only [bH,Di.l,Di.r,List.mem_append];exact .inr (.inr N9))) _ _ _ S' k1
      cases x with
      |norm=>
       simp only at g1
       obtain ⟨_,g3,g4⟩:=Option.bind_eq_some_iff.1 g1
       cases g4
       exact ⟨e',e2,aP,k2,g2,g3,rfl⟩
      |exit id=>cases g1
      |ret=>cases g1
     ·intro a' w' aR fp' e1 hpk l1 l2 l3 l4
      refine hQ a' w' aR fp' ?_ l2 l3 l4
      refine he.join l4.le l1 l3 fun q=>?_
      rcases hF q with h3 |⟨j,ty,h3,h4⟩
      ·rw [Env.S4] at h3
       by_cases LF:q∈aF (.seq (.region SQ ops false) (.seq (.cond mo ca cb) body))
       ·rw [if_pos LF] at h3;exact .inr (.inl h3)
       ·rw [if_neg LF] at h3;exact .inr (.inr ⟨LF,h3⟩)
      ·left;rw [h4,← hpk,Nat.zero_add,Pn h3]
    ·cases h
   ·cases h
  ·cases h
 |.scope c,hd,hp,an,hs,R,e,σ,K,r,h=>by
  simp only [exec] at h
  obtain ⟨x,e1,aJ,g1,g2⟩:=ej hG hm c hd hp an.l hs e σ K r h
  refine ⟨x,e1,aJ,g1,fun ρ fp a w he aC Q hQ=>DF (g2 ρ fp a w he aC _ fun a' w' aR fp' k1 k2 k3 k4=>?_)⟩
  have:=hQ a' w' aR fp' k1 k2 k3 k4
  cases x<;>exact this
 |.rangeFunc g ps Xd body,hd,hp,an,hs,R,e,σ,K,r,h=>by
  have hro:ro=none:=hp.resolve_right (by simp [plain])
  subst hro
  simp only [exec] at h
  split at h
  ·rename_i site cf outs
   split at h
   ·rename_i f hev
    obtain ⟨⟨v1,aJ⟩,hc,h'⟩:=Option.bind_eq_some_iff.1 h
    clear h
    obtain ⟨c,fi,ca,rfl⟩:∃ c fi ca,f=some (.func c,fi,ca):=by
     unfold VJ at hc
     split at hc
     ·rename_i c fi ca;exact ⟨c,fi,ca,rfl⟩
     ·cases hc
    replace hc:Gt G (c+Kl) (fi++[.fn (some (.yield σ.next,[],[]))]++ca) ((σ.bump 1).put σ.next (.loop site (cf.map fun t=>(t,e t)) .ready))=some (v1,aJ):=hc
    obtain ⟨s,hl,h⟩:=Option.bind_eq_some_iff.1 h'
    simp only at hl h
    have akR:pN P site=some (ps,Xd,body):=hs (site,(ps,Xd,body)) (by simp [bH])
    obtain ⟨x,hk,hx⟩:∃ x,K x e (aJ.kill σ.next)=some r ∧ ((x=.norm ∧ s=0) ∨ (x=xOf s ∧ 3 ≤ s)):=by
     cases h0:Nat.beq s 0 with
     |true=>rw [h0] at h;exact ⟨.norm,h,.inl ⟨rfl,Nat.eq_of_beq_eq_true h0⟩⟩
     |false=>rw [h0] at h;obtain ⟨h1,h2⟩:=LG h;exact ⟨xOf s,h2,.inr ⟨rfl,h1⟩⟩
    obtain ⟨c',Ib,ahZ,apr⟩:∃ c',c+Kl=c'+Kl ∧ aa P c' ∧ ae RO P c' (Gt G (c+Kl)):=by
     rcases Fa hG hc with ⟨h0,_⟩ |⟨h0,_⟩ |⟨h0,_⟩ |h
     ·simp only [wo,Kl] at h0;omega
     ·simp only [wo,Kl] at h0;omega
     ·simp only [wo,Kl] at h0;omega
     ·exact h
    obtain rfl:c=c':=Nat.add_right_cancel Ib
    refine ⟨x,e,aJ.kill σ.next,hk,fun ρ fp a w he aC Q hQ=>?_⟩
    refine wpIn_rangeFunc fun fn _=>?_
    have hg:=he.ev g
    rw [hev] at hg
    obtain ⟨QI,QJ,uf,hfi,hca⟩:=hg.VR
    have Yt:aO RO P (· < σ.next) ρ fp σ w ρ fp σ (w.alloc (.deferred (some []))):=aO.more aC (fun B hB=>Go.heap_alloc_old w _ hB) (by simp) rfl rfl rfl
    have aps:(w.alloc (.deferred (some []))).heap.size=w.heap.size+1:=by simp
    let r0:Loop:={state:=.ready,pending:=none,fn:=fn,tmps:=a.tmps,params:=ps,assign:=Xd,body:=body,defers:=w.heap.size}
    obtain ⟨ρ1,Oa,akS,N7⟩:=aO.VS (σ:=σ.bump 1) (nid:=σ.next) (Yt.rel.bump 1) (Nat.lt_succ_self _) (aC.next _ (Nat.le_refl _)).1 (.loop r0) (.loop site (cf.map fun t=>(t,e t)) .ready) ⟨(w.alloc (.deferred (some []))).heap.size,0,0,0⟩ (fun aR hle w'=>
     ⟨r0,(ps,Xd,body),rfl,akR,rfl,rfl,rfl,⟨rfl,rfl⟩,fun t ht=>by rw [show r0.tmps.size=n from he.size];exact tO hd t ht,fun t v hm=>by
      simp only [List.mem_map,Prod.mk.injEq] at hm
      obtain ⟨t',_,rfl,rfl⟩:=hm
      exact (he.get t').mono hle⟩)
    have hargs:aL ρ1 (fi++[.fn (some (.yield σ.next,[],[]))]++ca) (QI.toArray ++ #[Value.func (.yield (w.alloc (.deferred (some []))).heap.size) #[] #[]]++QJ.toArray).toList:=by
     simp only [Array.toList_append]
     exact ((hfi.mono N7.le).append (.cons _ _ _ _ (.yl _ _ (.n _ _ akS)) .nil)).append (hca.mono N7.le)
    have akT:=apr _ _ _ _ hc ρ1 Oa _ (QI.toArray ++ #[Value.func (.yield (w.alloc (.deferred (some []))).heap.size) #[] #[]]++QJ.toArray) hargs N7.rel
    refine ⟨(w.alloc (.deferred (some []))).heap.size,[{target:=.collected w.heap.size,args := #[]}],(w.alloc (.deferred (some []))).alloc (.loop r0),{target:=.fn (.func c) QJ.toArray,args:=QI.toArray ++ #[Value.func (.yield (w.alloc (.deferred (some []))).heap.size) #[] #[]]},(w.alloc (.deferred (some []))).alloc (.loop r0),c,QI.toArray ++ #[Value.func (.yield (w.alloc (.deferred (some []))).heap.size) #[] #[]]++QJ.toArray,(w.alloc (.deferred (some []))).alloc (.loop r0),?_,?_,fun _ _=>trivial,?_,fun h=>(Bool.false_ne_true h).elim,Fb.2 (akT.mono ?_)⟩
    ·rw [aps];exact run_enterLoop_outer fn a.tmps ps Xd body
    ·have ec:a.eval (.const (Value.func (.yield (w.alloc (.deferred (some []))).heap.size) #[] #[]))=Value.func (.yield (w.alloc (.deferred (some []))).heap.size) #[] #[]:=rfl
     simp [resolve,uf,Deferred.ofValue]
     rfl
    ·exact ahZ _ _
    rintro xx w3 ⟨Vi,SC,u,rfl,hu,W7⟩
    obtain ⟨Xh,ads,st,Kn,lP⟩:∃ Xh ads st,aJ.ai σ.next=some (.loop Xh ads st) ∧ st.code=s:=by
     unfold ahR at hl
     split at hl
     ·rename_i s' e' Z0 hb;exact ⟨s',e',Z0,hb,by simpa using hl⟩
     ·cases hl
    have S5:=W7.le.l _ _ akS
    obtain ⟨r3,x3,g1,g2,g3,g4,g5,g6,g7,g8⟩:=W7.rel.ai _ _ _ Kn S5
    have Xi:w3.heap[(w.alloc (.deferred (some []))).heap.size]? = some (.loop r3):=W7.rel.has _ _ _ (by rw [g1];exact bp _ _)
    obtain ⟨Vd,hp3⟩:=aO.S6 (S:=(· < σ.next)) W7.rel Kn S5 g1 (x1:=.loop Xh ads .gone) (ob':=.loop {r3 with state:=.exhausted}) (fun w'=>⟨{r3 with state:=.exhausted},x3,rfl,g2,g3,g4,g5,trivial,g7,g8⟩)
    obtain ⟨fp4,hp4⟩:=aO.kill (S:=(· < σ.next)) hp3.rel σ.next
    have ek:(aJ.put σ.next (.loop Xh ads .gone)).kill σ.next=aJ.kill σ.next:=by
     simp only [AH.put,AH.kill,AH.mk.injEq,and_true]
     funext q
     cases Nat.beq q σ.next<;>rfl
    rw [ek] at hp4
    have T1:aO RO P (· < σ.next) ρ fp σ (w.alloc (.deferred (some []))) Vi fp4 (aJ.kill σ.next) (w3.putObj (w.alloc (.deferred (some []))).heap.size (.loop {r3 with state:=.exhausted})):=
     aO.QF ((N7.mono fun b (hb:b<σ.next)=>by omega).trans ((W7.mono fun b (hb:b<σ.next)=>Nat.lt_succ_of_lt hb).trans (hp3.trans hp4)))
    have T:=Yt.trans T1
    have hE:aH n Vi e ({a with defers:=[{target:=.collected w.heap.size,args := #[]}]++a.defers}:Act):=⟨he.size,fun t=>(he.get t).mono T.le⟩
    have hM:∀ B0,Marks B0 fp w a.defers → Marks B0 fp4 (w3.putObj (w.alloc (.deferred (some []))).heap.size (.loop {r3 with state:=.exhausted})) ([{target:=.collected w.heap.size,args := #[]}]++a.defers):=fun B0 hm=>by
     have m1:=hm.post Yt
     refine Marks.post (S:=(· < σ.next)) ⟨m1.sz,?_,fun d xZ=>?_⟩ T1
     ·simp only [List.cons_append,List.nil_append,List.map_cons,List.nodup_cons]
      refine ⟨fun VT=>?_,hm.nd⟩
      obtain ⟨d,hd1,hd2⟩:=List.mem_map.1 VT
      obtain ⟨r,k1,_,k3,_⟩:=hm.it d hd1
      rw [k1] at hd2
      cases hd2
      have:=(Array.getElem?_eq_some_iff.1 k3).1
      omega
     ·rcases List.mem_append.1 xZ with xZ |xZ
      ·simp only [List.mem_singleton] at xZ
       subst xZ
       refine ⟨w.heap.size,rfl,hm.sz,heap_alloc_new w _,fun b=>?_⟩
       cases hb:fp b w.heap.size with
       |none=>rfl
       |some o=>have:=aC.size (b:=b) (B:=w.heap.size) (by rw [hb];simp);omega
      ·exact m1.it d xZ
    have done:∀ {x:X} {Q':Exit → Act → World → Prop},Q'=Q → K x e (aJ.kill σ.next)=some r → True:=fun _ _=>trivial
    have hq:=hQ _ _ Vi fp4 hE hM (fun _ _=>rfl) T
    cases st with
    |ready=>
     obtain ⟨k1,k2⟩:=g6
     refine ⟨none,_,by rw [← k2];exact run_endLoop Xi (by rw [k1];simp),?_⟩
     rcases hx with ⟨rfl,_⟩ |⟨_,h3⟩
     ·exact hq
     ·simp only [ZZ.code] at lP;omega
    |busy=>rcases hx with ⟨_,h3⟩ |⟨_,h3⟩<;>simp only [ZZ.code] at lP<;>omega
    |gone=>rcases hx with ⟨_,h3⟩ |⟨_,h3⟩<;>simp only [ZZ.code] at lP<;>omega
    |done j=>
     obtain ⟨k1,k2⟩:=g6
     refine ⟨some (agT j),_,by rw [← k2];exact run_endLoop Xi (by rw [k1];simp),?_⟩
     cases j with
     |none=>
      simp only [ZZ.code] at lP
      rcases hx with ⟨_,h3⟩ |⟨rfl,_⟩
      ·omega
      ·subst lP
       exact wpIn_ret hq
     |some id=>
      simp only [ZZ.code] at lP
      rcases hx with ⟨_,h3⟩ |⟨rfl,_⟩
      ·omega
      ·subst lP
       have:xOf (id+4)=.exit id:=by unfold xOf;rw [if_neg (by omega)];congr 1
       rw [this] at hq
       exact wpIn_exit hq
   ·cases h
  ·cases h
 |.goto _,_,_,an,_,R,e,σ,K,r,h=>by cases h
 |.refuse _,_,_,an,_,R,e,σ,K,r,h=>by cases h
end Go.Abs
