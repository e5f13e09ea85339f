/-
  AbsDraw1: operations in another heap, and in another environment.
-/
import Derived.Test.YtlgnboohmahbaaaGreatDoorAbsDraw0
set_option linter.unusedVariables false
set_option linter.unusedSimpArgs false
set_option linter.constructorNameAsVariable false
namespace Go.Abs
open Go
variable {O:Type} {RO:O → Loc → (Nat → Option Obj) → Prop} {P:Program} {G:List (Nat × Sm O)} {n:Nat}
theorem Yo {R:Type} {op:Op} {ty:TypeId} {e e':Env} {σ:AH O} {nid:Nat} {K:AV → AH O → Option R} (h:∀ x∈op.operands.toList,ev e x=ev e' x):fe P G op ty e σ nid K=fe P G op ty e' σ nid K:=by
 have agO:∀ ps:Array (Nat × Operand),(∀ x∈(ps.toList.map (·.2)),ev e x=ev e' x) → (ps.toList.map fun x=>(x.1,ev e x.2))=(ps.toList.map fun x=>(x.1,ev e' x.2)):=fun ps hp=>
  List.map_congr_left fun p hm=>by rw [hp p.2 (List.mem_map.2 ⟨p,hm,rfl⟩)]
 have maps:∀ ps:List Operand,(∀ x∈ps,ev e x=ev e' x) → ps.map (ev e)=ps.map (ev e'):=fun ps hp=>List.map_congr_left hp
 cases op<;>simp only [Op.operands] at h
 case build t ps=>
  simp only [fe,bG]
  rw [agO ps fun x hx=>h x (by simpa using hx)]
 case buildSlice t m ps=>
  simp only [fe]
  rw [agO ps fun x hx=>h x (by simpa using hx)]
 case makeFunc fn first captured=>
  simp only [fe,bG]
  rw [maps first.toList fun x hx=>h x (by simp at hx ⊢;exact .inl hx),maps captured.toList fun x hx=>h x (by simp at hx ⊢;exact .inr hx)]
 case call c=>
  obtain ⟨cal,as_,ts⟩:=c
  simp only [Call.operands] at h
  have ha:as_.toList.map (ev e)=as_.toList.map (ev e'):=maps _ fun x hx=>h x (by simp at hx ⊢;exact .inr hx)
  cases cal with
  |value f=>
   have hf:ev e f=ev e' f:=h f (by simp)
   simp only [fe,ha,hf]
  |invoke r m=>simp only [fe,bG]
  |builtin b=>cases b<;>simp only [fe,bG,ha]
 case makeMap t x=>
  cases x with
  |none=>rfl
  |some y=>have hy:=h y (by simp);simp only [fe,hy]
 case slice t x lo hi mx=>
  have hx:=h x (by simp)
  have h1:∀ o,lo=some o → ev e o=ev e' o:=fun o ho=>h o (by simp [ho])
  have h2:∀ o,hi=some o → ev e o=ev e' o:=fun o ho=>h o (by simp [ho])
  have h3:∀ o,mx=some o → ev e o=ev e' o:=fun o ho=>h o (by simp [ho])
  cases lo with
  |none=>
   cases hi with
   |none=>
    cases mx with
    |none=>
     simp only [fe,bG,hx]
    |some mxv=>
     have gh3:=h3 mxv rfl
     simp only [fe,bG,hx]
   |some hiv=>
    have gh2:=h2 hiv rfl
    cases mx with
    |none=>
     simp only [fe,bG,hx];cases ev e' x<;>first |rfl |(simp only [gh2];done)
    |some mxv=>
     have gh3:=h3 mxv rfl
     simp only [fe,bG,hx];cases ev e' x<;>first |rfl |(simp only [gh2,gh3];done)
  |some lov=>
   have gh1:=h1 lov rfl
   cases hi with
   |none=>
    cases mx with
    |none=>
     simp only [fe,bG,hx];cases ev e' x<;>first |rfl |(simp only [gh1];done)
    |some mxv=>
     have gh3:=h3 mxv rfl
     simp only [fe,bG,hx];cases ev e' x<;>first |rfl |(simp only [gh1,gh3];done)
   |some hiv=>
    have gh2:=h2 hiv rfl
    cases mx with
    |none=>
     simp only [fe,bG,hx];cases ev e' x<;>first |rfl |(simp only [gh1,gh2];done)
    |some mxv=>
     have gh3:=h3 mxv rfl
     simp only [fe,bG,hx];cases ev e' x<;>first |rfl |(simp only [gh1,gh2,gh3];done)
 all_goals (simp only [fe,bG];try (simp_all;done))
theorem SX {op:Op} {ty:TypeId} {e:Env} {σ aj:AH O} {nid:Nat} {v:AV} (h:fe P G op ty e σ nid two=some (v,aj)) (h1:turns op=false) (h2:aM op=false) (h3:de op=false):
  aj=σ ∧ ∀ aP Ko,fe P G op ty e aP Ko two=some (v,aP):=by
 have key:fe P G op ty e σ nid two=bG P op ty e (fun v=>two v σ) → (∀ aP Ko,fe P G op ty e aP Ko two=bG P op ty e (fun v=>two v aP)) → aj=σ ∧ ∀ aP Ko,fe P G op ty e aP Ko two=some (v,aP):=by
  intro k1 k2
  rw [k1,la] at h
  obtain ⟨x,hx,h⟩:=Option.bind_eq_some_iff.1 h
  simp only [two,Option.some.injEq,Prod.mk.injEq] at h
  obtain ⟨rfl,rfl⟩:=h
  refine ⟨rfl,fun aP Ko=>?_⟩
  rw [k2,la,hx];rfl
 cases op<;>first |(simp [turns,aM,de] at h1 h2 h3;done) |skip
 case call c=>
  obtain ⟨cal,as_,ts⟩:=c
  cases cal with
  |value f=>simp [turns] at h1
  |invoke r m=>simp [turns] at h1
  |builtin b=>cases b<;>first |(simp [turns] at h1;done) |exact key rfl (fun _ _=>rfl)
 all_goals exact key rfl (fun _ _=>rfl)
theorem Pf {op:Op} {ty:TypeId} {e:Env} {σ aj:AH O} {nid:Nat} {v:AV} (h:fe P G op ty e σ nid two=some (v,aj)) (h1:turns op=false) (h2:aM op=true):
  ∃ el cs,aj=σ.put nid (.cells true el cs) ∧ ∀ aP,fe P G op ty e aP nid two=some (v,aP.put nid (.cells true el cs)):=by
 cases op<;>first |(simp [aM] at h2;done) |skip
 case alloc t=>
  simp only [fe] at h ⊢
  split at h
  ·simp only [two,Option.some.injEq,Prod.mk.injEq] at h
   obtain ⟨rfl,rfl⟩:=h
   exact ⟨_,_,rfl,fun aP=>rfl⟩
  ·cases h
 case box t x=>
  simp only [fe] at h ⊢
  obtain ⟨hc,h⟩:=aD h
  simp only [two,Option.some.injEq,Prod.mk.injEq] at h
  obtain ⟨rfl,rfl⟩:=h
  exact ⟨_,_,rfl,fun aP=>by rw [hc];rfl⟩
 case buildSlice t m ps=>
  simp only [fe] at h ⊢
  split at h
  ·split at h
   ·obtain ⟨hc,h⟩:=aD h
    split at h
    ·simp only [two,Option.some.injEq,Prod.mk.injEq] at h
     obtain ⟨rfl,rfl⟩:=h
     exact ⟨_,_,rfl,fun aP=>by rw [hc];rfl⟩
    ·cases h
   ·cases h
  ·cases h
 case makeSlice t l c=>
  simp only [fe] at h ⊢
  split at h
  ·obtain ⟨hc,h⟩:=aD h
   split at h
   ·simp only [two,Option.some.injEq,Prod.mk.injEq] at h
    obtain ⟨rfl,rfl⟩:=h
    exact ⟨_,_,rfl,fun aP=>by rw [hc];rfl⟩
   ·cases h
  ·cases h
 case makeMap t x=>cases h1
 case range t x=>cases h1
 case call c=>
  obtain ⟨cal,as_,ts⟩:=c
  cases cal with
  |value f=>simp [turns] at h1
  |invoke r m=>simp [turns] at h1
  |builtin b=>cases b<;>first |(simp [turns] at h1;done) |(simp [aM] at h2;done)
theorem BC {σ aP:AH O} {b:jJ}:∀ (ls:List jK) (o:Nat) (vs:List AV),zD σ b ls o some=some vs → (∀ k v,vs[k]? = some v → σ.ld b (o+k)=some v) ∧ ((∀ k v,vs[k]? = some v → aP.ld b (o+k)=some v) → zD aP b ls o some=some vs)
 |[],o,vs,h=>by cases h;exact ⟨fun k v hv=>by simp at hv,fun _=>rfl⟩
 |l::ls,o,vs,h=>by
  simp only [zD] at h
  obtain ⟨v,hv,h⟩:=Option.bind_eq_some_iff.1 h
  rw [cG] at h
  obtain ⟨v',tp,h2⟩:=Option.bind_eq_some_iff.1 h
  have e:v=v':=by have:=eQ tp;simpa using this
  subst e
  obtain ⟨h1,h3⟩:=aD h2
  rw [lb] at h3
  obtain ⟨r,hr,h4⟩:=Option.bind_eq_some_iff.1 h3
  cases h4
  obtain ⟨g1,g2⟩:=BC (aP:=aP) ls (o+1) r hr
  refine ⟨fun k x hk=>?_,fun hh=>?_⟩
  ·cases k with
   |zero=>cases hk;exact hv
   |succ k=>rw [← g1 k x (by simpa using hk)];congr 1;omega
  ·simp only [zD]
   rw [show aP.ld b o=some v from hh 0 v rfl,Option.bind_some,cG,tp,Option.bind_some,h1,cond_true,lb,g2 fun k x hk=>by rw [← hh (k+1) x (by simpa using hk)];congr 1;omega]
   rfl
theorem EZ {t ty:TypeId} {x:Operand} {e:Env} {σ aj:AH O} {nid:Nat} {v:AV} (h:fe P G (.load t x) ty e σ nid two=some (v,aj)):
  aj=σ ∧ ∃ b f,ev e x=.p (some (b,f)) ∧ (∀ k c,v.cells[k]? = some c → σ.ld b (f+k)=some c) ∧ ∀ aP Ko,(∀ k c,v.cells[k]? = some c → aP.ld b (f+k)=some c) → fe P G (.load t x) ty e aP Ko two=some (v,aP):=by
 simp only [fe] at h ⊢
 obtain ⟨b,f,hx,h⟩:=nS h
 obtain ⟨DE,h⟩:=aD h
 rw [hx]
 simp only at h
 rw [Dl] at h
 obtain ⟨v',tp,h⟩:=Option.bind_eq_some_iff.1 h
 simp only [two,Option.some.injEq,Prod.mk.injEq] at h
 obtain ⟨rfl,rfl⟩:=h
 refine ⟨rfl,b,f,rfl,?_⟩
 have fin:∀ aP:AH O,loadT aP b f (Ag P t) some=some v' → ((AV.p (some (b,f))).lN.bind fun q=>bif Yh P t then loadT aP q.fst q.snd (Ag P t) fun v=>two v aP else none)=some (v',aP):=fun aP h2=>by
  show (bif Yh P t then loadT aP b f (Ag P t) fun v=>two v aP else none)=_
  rw [DE,cond_true,Dl,h2];rfl
 cases hT:Ag P t with
 |one l=>
  rw [hT] at tp fin
  simp only [loadT] at tp
  obtain ⟨c,hc,h⟩:=Option.bind_eq_some_iff.1 tp
  rw [cG] at h
  obtain ⟨c',Ib,h2⟩:=Option.bind_eq_some_iff.1 h
  have e:c=c':=by have:=eQ Ib;simpa using this
  subst e
  obtain ⟨h1,h3⟩:=aD h2
  cases h3
  have Gj:v'.cells=[v']:=by cases v'<;>first |rfl |(simp [AV.aZ] at h1;done)
  rw [Gj]
  refine ⟨fun k c hk=>?_,fun aP _ hh=>fin aP ?_⟩
  ·cases k with
   |zero=>cases hk;exact hc
   |succ k=>simp at hk
  ·simp only [loadT]
   rw [show aP.ld b f=some v' from hh 0 v' rfl,Option.bind_some,cG,Ib,Option.bind_some,h1];rfl
 |agg ls=>
  rw [hT] at tp fin
  simp only [loadT] at tp
  rw [lb] at tp
  obtain ⟨vs,hvs,h⟩:=Option.bind_eq_some_iff.1 tp
  cases h
  refine ⟨(BC (aP:=σ) ls f vs hvs).1,fun aP _ hh=>fin aP ?_⟩
  simp only [loadT]
  rw [lb,(BC (aP:=aP) ls f vs hvs).2 hh];rfl
 |aS ts=>rw [hT] at tp;cases tp
theorem Lx {t t' ty:TypeId} {x:Operand} {e:Env} {σ aj:AH O} {nid:Nat} {v:AV} (h:fe P G (.convert t t' x) ty e σ nid two=some (v,aj)):
  aj=σ ∧ ∀ aP Ko,(∀ a m,ev e x=.sl a m → aP.bC a m 1=σ.bC a m 1) → fe P G (.convert t t' x) ty e aP Ko two=some (v,aP):=by
 simp only [fe] at h ⊢
 split at h
 ·rename_i a m hx
  rw [hx]
  split at h
  ·rename_i el hu VC
   split at h
   ·rename_i Eo
    obtain ⟨cs,Gj,h⟩:=Option.bind_eq_some_iff.1 h
    obtain ⟨l,hl,h⟩:=Option.bind_eq_some_iff.1 h
    simp only [two,Option.some.injEq,Prod.mk.injEq] at h
    obtain ⟨rfl,rfl⟩:=h
    refine ⟨rfl,fun aP _ hh=>?_⟩
    simp only [hh a m rfl,Gj,Option.bind_some,hl]
   ·cases h
  ·cases h
 ·rename_i l hx
  rw [hx]
  split at h
  ·rename_i d0 el hu VC
   split at h
   ·rename_i Eo
    obtain ⟨hc,h⟩:=aD h
    simp only [two,Option.some.injEq,Prod.mk.injEq] at h
    obtain ⟨rfl,rfl⟩:=h
    refine ⟨rfl,fun aP _ _=>?_⟩
    simp only [hc,cond_true,two]
   ·cases h
  ·rename_i jL
   rw [la] at h
   obtain ⟨x',hx,h⟩:=Option.bind_eq_some_iff.1 h
   simp only [two,Option.some.injEq,Prod.mk.injEq] at h
   obtain ⟨rfl,rfl⟩:=h
   refine ⟨rfl,fun aP Ko _=>?_⟩
   rw [la,hx];rfl
 ·rename_i jL
  rw [la] at h
  obtain ⟨x',hx,h⟩:=Option.bind_eq_some_iff.1 h
  simp only [two,Option.some.injEq,Prod.mk.injEq] at h
  obtain ⟨rfl,rfl⟩:=h
  refine ⟨rfl,fun aP Ko _=>?_⟩
  rw [la,hx];rfl
end Go.Abs
