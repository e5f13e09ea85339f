/-
  AbsDraw1: operations in another heap, and in another environment.
-/
import Derived.Test.YtncohicmiihjiaaGreatAbsDraw0
set_option linter.unusedVariables false
set_option linter.unusedSimpArgs false
set_option linter.constructorNameAsVariable false
namespace Go.Abs
open Go
variable {O:Type} {RO:O->Loc->(Nat->Option Obj)->Prop} {P:Program} {G:List (Nat × Sm O)} {n:Nat}
theorem FO {R:Type} {op:Op} {ty:TypeId} {e e':Env} {J:AH O} {nid:Nat} {K:AV->AH O->Option R} (h:∀ x∈op.operands.toList,ev e x=ev e' x):dF P G op ty e J nid K=dF P G op ty e' J nid K:=by
 have Qv:∀ ps:Array (Nat × Operand),(∀ x∈(ps.toList.map (·.2)),ev e x=ev e' x)->(ps.toList.map fun x=>(x.1,ev e x.2))=(ps.toList.map fun x=>(x.1,ev e' x.2)):=fun ps hp=>
  List.map_congr_left fun p hm=>by rw [hp p.2 (List.mem_map.2 ⟨p,hm,rfl⟩)]
 have maps:∀ ps:List Operand,(∀ x∈ps,ev e x=ev e' x)->ps.map (ev e)=ps.map (ev e'):=fun ps hp=>List.map_congr_left hp
 cases op<;>simp only [Op.operands] at h
 case build t ps=>
  simp only [dF,bc]
  rw [Qv ps fun x hx=>h x (by simpa using hx)]
 case buildSlice t m ps=>
  simp only [dF]
  rw [Qv ps fun x hx=>h x (by simpa using hx)]
 case makeFunc fn first captured=>
  simp only [dF,bc]
  rw [maps first.toList fun x hx=>h x (by simp at hx ⊢;exact .inl hx),maps captured.toList fun x hx=>h x (by simp at hx ⊢;exact .inr hx)]
 case call c=>
  obtain ⟨St,Nn,ts⟩:=c
  simp only [Call.operands] at h
  have ha:Nn.toList.map (ev e)=Nn.toList.map (ev e'):=maps _ fun x hx=>h x (by simp at hx ⊢;exact .inr hx)
  cases St with
  |value f=>
   have hf:ev e f=ev e' f:=h f (by simp)
   simp only [dF,ha,hf]
  |invoke r m=>simp only [dF,bc]
  |builtin b=>cases b<;>simp only [dF,bc,ha]
 case makeMap t x=>
  cases x with
  |none=>rfl
  |some y=>have hy:=h y (by simp);simp only [dF,hy]
 case slice t x lo hi mx=>
  have hx:=h x (by simp)
  have h1:∀ o,lo=some o->ev e o=ev e' o:=fun o ho=>h o (by simp [ho])
  have h2:∀ o,hi=some o->ev e o=ev e' o:=fun o ho=>h o (by simp [ho])
  have h3:∀ o,mx=some o->ev e o=ev e' o:=fun o ho=>h o (by simp [ho])
  cases lo with
  |none=>
   cases hi with
   |none=>
    cases mx with
    |none=>
     simp only [dF,bc,hx]
    |some Su=>
     have Vg:=h3 Su rfl
     simp only [dF,bc,hx]
   |some hiv=>
    have W3:=h2 hiv rfl
    cases mx with
    |none=>
     simp only [dF,bc,hx];cases ev e' x<;>first |rfl |(simp only [W3];done)
    |some Su=>
     have Vg:=h3 Su rfl
     simp only [dF,bc,hx];cases ev e' x<;>first |rfl |(simp only [W3,Vg];done)
  |some lov=>
   have gh1:=h1 lov rfl
   cases hi with
   |none=>
    cases mx with
    |none=>
     simp only [dF,bc,hx];cases ev e' x<;>first |rfl |(simp only [gh1];done)
    |some Su=>
     have Vg:=h3 Su rfl
     simp only [dF,bc,hx];cases ev e' x<;>first |rfl |(simp only [gh1,Vg];done)
   |some hiv=>
    have W3:=h2 hiv rfl
    cases mx with
    |none=>
     simp only [dF,bc,hx];cases ev e' x<;>first |rfl |(simp only [gh1,W3];done)
    |some Su=>
     have Vg:=h3 Su rfl
     simp only [dF,bc,hx];cases ev e' x<;>first |rfl |(simp only [gh1,W3,Vg];done)
 all_goals (simp only [dF,bc];try (simp_all;done))
theorem Ad {op:Op} {ty:TypeId} {e:Env} {J J':AH O} {nid:Nat} {v:AV} (h:dF P G op ty e J nid two=some (v,J')) (h1:turns op=false) (h2:aM op=false) (h3:ct op=false):
  J'=J/\∀ J2 tT,dF P G op ty e J2 tT two=some (v,J2):=by
 have key:dF P G op ty e J nid two=bc P op ty e (fun v=>two v J)->(∀ J2 tT,dF P G op ty e J2 tT two=bc P op ty e (fun v=>two v J2))->J'=J/\∀ J2 tT,dF P G op ty e J2 tT two=some (v,J2):=by
  intro k1 k2
  rw [k1,iN] at h
  obtain ⟨x,hx,h⟩:=Option.bind_eq_some_iff.1 h
  simp only [two,Option.some.injEq,Prod.mk.injEq] at h
  obtain ⟨rfl,rfl⟩:=h
  refine ⟨rfl,fun J2 tT=>?_⟩
  rw [k2,iN,hx];rfl
 cases op<;>first |(simp [turns,aM,ct] at h1 h2 h3;done) |skip
 case call c=>
  obtain ⟨St,Nn,ts⟩:=c
  cases St with
  |value f=>simp [turns] at h1
  |invoke r m=>simp [turns] at h1
  |builtin b=>cases b<;>first |(simp [turns] at h1;done) |exact key rfl (fun _ _=>rfl)
 all_goals exact key rfl (fun _ _=>rfl)
theorem wE {op:Op} {ty:TypeId} {e:Env} {J J':AH O} {nid:Nat} {v:AV} (h:dF P G op ty e J nid two=some (v,J')) (h1:turns op=false) (h2:aM op=true):
  ∃ el cs,J'=J.put nid (.cells true el cs)/\∀ J2,dF P G op ty e J2 nid two=some (v,J2.put nid (.cells true el cs)):=by
 cases op<;>first |(simp [aM] at h2;done) |skip
 case alloc t=>
  simp only [dF] at h ⊢
  split at h
  ·simp only [two,Option.some.injEq,Prod.mk.injEq] at h
   obtain ⟨rfl,rfl⟩:=h
   exact ⟨_,_,rfl,fun J2=>rfl⟩
  ·cases h
 case box t x=>
  simp only [dF] at h ⊢
  obtain ⟨hc,h⟩:=aF h
  simp only [two,Option.some.injEq,Prod.mk.injEq] at h
  obtain ⟨rfl,rfl⟩:=h
  exact ⟨_,_,rfl,fun J2=>by rw [hc];rfl⟩
 case buildSlice t m ps=>
  simp only [dF] at h ⊢
  split at h
  ·split at h
   ·obtain ⟨hc,h⟩:=aF h
    split at h
    ·simp only [two,Option.some.injEq,Prod.mk.injEq] at h
     obtain ⟨rfl,rfl⟩:=h
     exact ⟨_,_,rfl,fun J2=>by rw [hc];rfl⟩
    ·cases h
   ·cases h
  ·cases h
 case makeSlice t l c=>
  simp only [dF] at h ⊢
  split at h
  ·obtain ⟨hc,h⟩:=aF h
   split at h
   ·simp only [two,Option.some.injEq,Prod.mk.injEq] at h
    obtain ⟨rfl,rfl⟩:=h
    exact ⟨_,_,rfl,fun J2=>by rw [hc];rfl⟩
   ·cases h
  ·cases h
 case makeMap t x=>cases h1
 case range t x=>cases h1
 case call c=>
  obtain ⟨St,Nn,ts⟩:=c
  cases St with
  |value f=>simp [turns] at h1
  |invoke r m=>simp [turns] at h1
  |builtin b=>cases b<;>first |(simp [turns] at h1;done) |(simp [aM] at h2;done)
theorem ma {J J2:AH O} {b:fJ}:∀ (ls:List fg) (o:Nat) (vs:List AV),kZ J b ls o some=some vs->(∀ k v,vs[k]? = some v->J.ld b (o+k)=some v)/\((∀ k v,vs[k]? = some v->J2.ld b (o+k)=some v)->kZ J2 b ls o some=some vs)
 |[],o,vs,h=>by cases h;exact ⟨fun k v hv=>by simp at hv,fun _=>rfl⟩
 |l::ls,o,vs,h=>by
  simp only [kZ] at h
  obtain ⟨v,hv,h⟩:=Option.bind_eq_some_iff.1 h
  rw [bV] at h
  obtain ⟨v',iB,h2⟩:=Option.bind_eq_some_iff.1 h
  have e:v=v':=by have:=dA iB;simpa using this
  subst e
  obtain ⟨h1,h3⟩:=aF h2
  rw [fK] at h3
  obtain ⟨r,hr,h4⟩:=Option.bind_eq_some_iff.1 h3
  cases h4
  obtain ⟨g1,g2⟩:=ma (J2:=J2) ls (o+1) r hr
  refine ⟨fun k x hk=>?_,fun hh=>?_⟩
  ·cases k with
   |zero=>cases hk;exact hv
   |succ k=>rw [<-g1 k x (by simpa using hk)];congr 1;omega
  ·simp only [kZ]
   rw [show J2.ld b o=some v from hh 0 v rfl,Option.bind_some,bV,iB,Option.bind_some,h1,cond_true,fK,g2 fun k x hk=>by rw [<-hh (k+1) x (by simpa using hk)];congr 1;omega]
   rfl
theorem nV {t ty:TypeId} {x:Operand} {e:Env} {J J':AH O} {nid:Nat} {v:AV} (h:dF P G (.load t x) ty e J nid two=some (v,J')):
  J'=J/\∃ b f,ev e x=.p (some (b,f))/\(∀ k c,v.cells[k]? = some c->J.ld b (f+k)=some c)/\∀ J2 tT,(∀ k c,v.cells[k]? = some c->J2.ld b (f+k)=some c)->dF P G (.load t x) ty e J2 tT two=some (v,J2):=by
 simp only [dF] at h ⊢
 obtain ⟨b,f,hx,h⟩:=gq h
 obtain ⟨nL,h⟩:=aF h
 rw [hx]
 simp only at h
 rw [mS] at h
 obtain ⟨v',iB,h⟩:=Option.bind_eq_some_iff.1 h
 simp only [two,Option.some.injEq,Prod.mk.injEq] at h
 obtain ⟨rfl,rfl⟩:=h
 refine ⟨rfl,b,f,rfl,?_⟩
 have fin:∀ J2:AH O,loadT J2 b f (lB P t) some=some v'->((AV.p (some (b,f))).qz.bind fun q=>bif FJ P t then loadT J2 q.fst q.snd (lB P t) fun v=>two v J2 else none)=some (v',J2):=fun J2 h2=>by
  show (bif FJ P t then loadT J2 b f (lB P t) fun v=>two v J2 else none)=_
  rw [nL,cond_true,mS,h2];rfl
 cases hT:lB P t with
 |one l=>
  rw [hT] at iB fin
  simp only [loadT] at iB
  obtain ⟨c,hc,h⟩:=Option.bind_eq_some_iff.1 iB
  rw [bV] at h
  obtain ⟨c',qF,h2⟩:=Option.bind_eq_some_iff.1 h
  have e:c=c':=by have:=dA qF;simpa using this
  subst e
  obtain ⟨h1,h3⟩:=aF h2
  cases h3
  have yb:v'.cells=[v']:=by cases v'<;>first |rfl |(simp [AV.aU] at h1;done)
  rw [yb]
  refine ⟨fun k c hk=>?_,fun J2 _ hh=>fin J2 ?_⟩
  ·cases k with
   |zero=>cases hk;exact hc
   |succ k=>simp at hk
  ·simp only [loadT]
   rw [show J2.ld b f=some v' from hh 0 v' rfl,Option.bind_some,bV,qF,Option.bind_some,h1];rfl
 |agg ls=>
  rw [hT] at iB fin
  simp only [loadT] at iB
  rw [fK] at iB
  obtain ⟨vs,hvs,h⟩:=Option.bind_eq_some_iff.1 iB
  cases h
  refine ⟨(ma (J2:=J) ls f vs hvs).1,fun J2 _ hh=>fin J2 ?_⟩
  simp only [loadT]
  rw [fK,(ma (J2:=J2) ls f vs hvs).2 hh];rfl
 |aG ts=>rw [hT] at iB;cases iB
theorem tN {t t' ty:TypeId} {x:Operand} {e:Env} {J J':AH O} {nid:Nat} {v:AV} (h:dF P G (.convert t t' x) ty e J nid two=some (v,J')):
  J'=J/\∀ J2 tT,(∀ a m,ev e x=.sl a m->J2.bU a m 1=J.bU a m 1)->dF P G (.convert t t' x) ty e J2 tT two=some (v,J2):=by
 simp only [dF] at h ⊢
 split at h
 ·rename_i a m hx
  rw [hx]
  split at h
  ·rename_i el hu D3
   split at h
   ·rename_i tE
    obtain ⟨cs,yb,h⟩:=Option.bind_eq_some_iff.1 h
    obtain ⟨l,hl,h⟩:=Option.bind_eq_some_iff.1 h
    simp only [two,Option.some.injEq,Prod.mk.injEq] at h
    obtain ⟨rfl,rfl⟩:=h
    refine ⟨rfl,fun J2 _ hh=>?_⟩
    simp only [hh a m rfl,yb,Option.bind_some,hl]
   ·cases h
  ·cases h
 ·rename_i cJ
  rw [iN] at h
  obtain ⟨x',hx,h⟩:=Option.bind_eq_some_iff.1 h
  simp only [two,Option.some.injEq,Prod.mk.injEq] at h
  obtain ⟨rfl,rfl⟩:=h
  refine ⟨rfl,fun J2 tT _=>?_⟩
  rw [iN,hx];rfl
end Go.Abs
