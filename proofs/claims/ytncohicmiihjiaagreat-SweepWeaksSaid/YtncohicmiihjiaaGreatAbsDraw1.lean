/-
  AbsDraw1: operations in another heap, and in another environment.
-/
import Derived.Test.YtncohicmiihjiaaGreatAbsDraw0
set_option linter.unusedVariables false
set_option linter.unusedSimpArgs false
set_option linter.constructorNameAsVariable false
namespace Go.Abs
open Go
variable {O:Type} {RO:O->Loc->(Nat->Option Obj)->Prop} {P:Program} {G:List (Nat × Sm O)} {n:Nat}
theorem FH {R:Type} {op:Op} {ty:TypeId} {e e':Env} {J:AH O} {nid:Nat} {K:AV->AH O->Option R} (h:∀ x∈op.operands.toList,ev e x=ev e' x):dX P G op ty e J nid K=dX P G op ty e' J nid K:=by
 have PJ:∀ ps:Array (Nat × Operand),(∀ x∈(ps.toList.map (·.2)),ev e x=ev e' x)->(ps.toList.map fun x=>(x.1,ev e x.2))=(ps.toList.map fun x=>(x.1,ev e' x.2)):=fun ps hp=>
  List.map_congr_left fun p hm=>by rw [hp p.2 (List.mem_map.2 ⟨p,hm,rfl⟩)]
 have maps:∀ ps:List Operand,(∀ x∈ps,ev e x=ev e' x)->ps.map (ev e)=ps.map (ev e'):=fun ps hp=>List.map_congr_left hp
 cases op<;>simp only [Op.operands] at h
 case build t ps=>
  simp only [dX,bB]
  rw [PJ ps fun x hx=>h x (by simpa using hx)]
 case buildSlice t m ps=>
  simp only [dX]
  rw [PJ ps fun x hx=>h x (by simpa using hx)]
 case makeFunc fn first captured=>
  simp only [dX,bB]
  rw [maps first.toList fun x hx=>h x (by simp at hx ⊢;exact .inl hx),maps captured.toList fun x hx=>h x (by simp at hx ⊢;exact .inr hx)]
 case call c=>
  obtain ⟨RC,MI,ts⟩:=c
  simp only [Call.operands] at h
  have ha:MI.toList.map (ev e)=MI.toList.map (ev e'):=maps _ fun x hx=>h x (by simp at hx ⊢;exact .inr hx)
  cases RC with
  |value f=>
   have hf:ev e f=ev e' f:=h f (by simp)
   simp only [dX,ha,hf]
  |invoke r m=>simp only [dX,bB]
  |builtin b=>cases b<;>simp only [dX,bB,ha]
 case makeMap t x=>
  cases x with
  |none=>rfl
  |some y=>have hy:=h y (by simp);simp only [dX,hy]
 case slice t x lo hi mx=>
  have hx:=h x (by simp)
  have h1:∀ o,lo=some o->ev e o=ev e' o:=fun o ho=>h o (by simp [ho])
  have h2:∀ o,hi=some o->ev e o=ev e' o:=fun o ho=>h o (by simp [ho])
  have h3:∀ o,mx=some o->ev e o=ev e' o:=fun o ho=>h o (by simp [ho])
  cases lo with
  |none=>
   cases hi with
   |none=>
    cases mx with
    |none=>
     simp only [dX,bB,hx]
    |some RD=>
     have Up:=h3 RD rfl
     simp only [dX,bB,hx]
   |some hiv=>
    have Wh:=h2 hiv rfl
    cases mx with
    |none=>
     simp only [dX,bB,hx];cases ev e' x<;>first |rfl |(simp only [Wh];done)
    |some RD=>
     have Up:=h3 RD rfl
     simp only [dX,bB,hx];cases ev e' x<;>first |rfl |(simp only [Wh,Up];done)
  |some lov=>
   have gh1:=h1 lov rfl
   cases hi with
   |none=>
    cases mx with
    |none=>
     simp only [dX,bB,hx];cases ev e' x<;>first |rfl |(simp only [gh1];done)
    |some RD=>
     have Up:=h3 RD rfl
     simp only [dX,bB,hx];cases ev e' x<;>first |rfl |(simp only [gh1,Up];done)
   |some hiv=>
    have Wh:=h2 hiv rfl
    cases mx with
    |none=>
     simp only [dX,bB,hx];cases ev e' x<;>first |rfl |(simp only [gh1,Wh];done)
    |some RD=>
     have Up:=h3 RD rfl
     simp only [dX,bB,hx];cases ev e' x<;>first |rfl |(simp only [gh1,Wh,Up];done)
 all_goals (simp only [dX,bB];try (simp_all;done))
theorem z8 {op:Op} {ty:TypeId} {e:Env} {J J':AH O} {nid:Nat} {v:AV} (h:dX P G op ty e J nid two=some (v,J')) (h1:turns op=false) (h2:aM op=false) (h3:cA op=false):
  J'=J/\∀ J2 tX,dX P G op ty e J2 tX two=some (v,J2):=by
 have key:dX P G op ty e J nid two=bB P op ty e (fun v=>two v J)->(∀ J2 tX,dX P G op ty e J2 tX two=bB P op ty e (fun v=>two v J2))->J'=J/\∀ J2 tX,dX P G op ty e J2 tX two=some (v,J2):=by
  intro k1 k2
  rw [k1,iT] at h
  obtain ⟨x,hx,h⟩:=Option.bind_eq_some_iff.1 h
  simp only [two,Option.some.injEq,Prod.mk.injEq] at h
  obtain ⟨rfl,rfl⟩:=h
  refine ⟨rfl,fun J2 tX=>?_⟩
  rw [k2,iT,hx];rfl
 cases op<;>first |(simp [turns,aM,cA] at h1 h2 h3;done) |skip
 case call c=>
  obtain ⟨RC,MI,ts⟩:=c
  cases RC with
  |value f=>simp [turns] at h1
  |invoke r m=>simp [turns] at h1
  |builtin b=>cases b<;>first |(simp [turns] at h1;done) |exact key rfl (fun _ _=>rfl)
 all_goals exact key rfl (fun _ _=>rfl)
theorem wD {op:Op} {ty:TypeId} {e:Env} {J J':AH O} {nid:Nat} {v:AV} (h:dX P G op ty e J nid two=some (v,J')) (h1:turns op=false) (h2:aM op=true):
  ∃ el cs,J'=J.put nid (.cells true el cs)/\∀ J2,dX P G op ty e J2 nid two=some (v,J2.put nid (.cells true el cs)):=by
 cases op<;>first |(simp [aM] at h2;done) |skip
 case alloc t=>
  simp only [dX] at h ⊢
  split at h
  ·simp only [two,Option.some.injEq,Prod.mk.injEq] at h
   obtain ⟨rfl,rfl⟩:=h
   exact ⟨_,_,rfl,fun J2=>rfl⟩
  ·cases h
 case box t x=>
  simp only [dX] at h ⊢
  obtain ⟨hc,h⟩:=aG h
  simp only [two,Option.some.injEq,Prod.mk.injEq] at h
  obtain ⟨rfl,rfl⟩:=h
  exact ⟨_,_,rfl,fun J2=>by rw [hc];rfl⟩
 case buildSlice t m ps=>
  simp only [dX] at h ⊢
  split at h
  ·split at h
   ·obtain ⟨hc,h⟩:=aG h
    split at h
    ·simp only [two,Option.some.injEq,Prod.mk.injEq] at h
     obtain ⟨rfl,rfl⟩:=h
     exact ⟨_,_,rfl,fun J2=>by rw [hc];rfl⟩
    ·cases h
   ·cases h
  ·cases h
 case makeSlice t l c=>
  simp only [dX] at h ⊢
  split at h
  ·obtain ⟨hc,h⟩:=aG h
   split at h
   ·simp only [two,Option.some.injEq,Prod.mk.injEq] at h
    obtain ⟨rfl,rfl⟩:=h
    exact ⟨_,_,rfl,fun J2=>by rw [hc];rfl⟩
   ·cases h
  ·cases h
 case makeMap t x=>cases h1
 case call c=>
  obtain ⟨RC,MI,ts⟩:=c
  cases RC with
  |value f=>simp [turns] at h1
  |invoke r m=>simp [turns] at h1
  |builtin b=>cases b<;>first |(simp [turns] at h1;done) |(simp [aM] at h2;done)
theorem ma {J J2:AH O} {b:fH}:∀ (ls:List fm) (o:Nat) (vs:List AV),ly J b ls o some=some vs->(∀ k v,vs[k]? = some v->J.ld b (o+k)=some v)/\((∀ k v,vs[k]? = some v->J2.ld b (o+k)=some v)->ly J2 b ls o some=some vs)
 |[],o,vs,h=>by cases h;exact ⟨fun k v hv=>by simp at hv,fun _=>rfl⟩
 |l::ls,o,vs,h=>by
  simp only [ly] at h
  obtain ⟨v,hv,h⟩:=Option.bind_eq_some_iff.1 h
  rw [bY] at h
  obtain ⟨v',iD,h2⟩:=Option.bind_eq_some_iff.1 h
  have e:v=v':=by have:=dB iD;simpa using this
  subst e
  obtain ⟨h1,h3⟩:=aG h2
  rw [fJ] at h3
  obtain ⟨r,hr,h4⟩:=Option.bind_eq_some_iff.1 h3
  cases h4
  obtain ⟨g1,g2⟩:=ma (J2:=J2) ls (o+1) r hr
  refine ⟨fun k x hk=>?_,fun hh=>?_⟩
  ·cases k with
   |zero=>cases hk;exact hv
   |succ k=>rw [<-g1 k x (by simpa using hk)];congr 1;omega
  ·simp only [ly]
   rw [show J2.ld b o=some v from hh 0 v rfl,Option.bind_some,bY,iD,Option.bind_some,h1,cond_true,fJ,g2 fun k x hk=>by rw [<-hh (k+1) x (by simpa using hk)];congr 1;omega]
   rfl
theorem om {t ty:TypeId} {x:Operand} {e:Env} {J J':AH O} {nid:Nat} {v:AV} (h:dX P G (.load t x) ty e J nid two=some (v,J')):
  J'=J/\∃ b f,ev e x=.p (some (b,f))/\(∀ k c,v.cells[k]? = some c->J.ld b (f+k)=some c)/\∀ J2 tX,(∀ k c,v.cells[k]? = some c->J2.ld b (f+k)=some c)->dX P G (.load t x) ty e J2 tX two=some (v,J2):=by
 simp only [dX] at h ⊢
 obtain ⟨b,f,hx,h⟩:=gn h
 obtain ⟨nP,h⟩:=aG h
 rw [hx]
 simp only at h
 rw [mU] at h
 obtain ⟨v',iD,h⟩:=Option.bind_eq_some_iff.1 h
 simp only [two,Option.some.injEq,Prod.mk.injEq] at h
 obtain ⟨rfl,rfl⟩:=h
 refine ⟨rfl,b,f,rfl,?_⟩
 have fin:∀ J2:AH O,loadT J2 b f (lD P t) some=some v'->((AV.p (some (b,f))).kC.bind fun q=>bif Fz P t then loadT J2 q.fst q.snd (lD P t) fun v=>two v J2 else none)=some (v',J2):=fun J2 h2=>by
  show (bif Fz P t then loadT J2 b f (lD P t) fun v=>two v J2 else none)=_
  rw [nP,cond_true,mU,h2];rfl
 cases hT:lD P t with
 |one l=>
  rw [hT] at iD fin
  simp only [loadT] at iD
  obtain ⟨c,hc,h⟩:=Option.bind_eq_some_iff.1 iD
  rw [bY] at h
  obtain ⟨c',qP,h2⟩:=Option.bind_eq_some_iff.1 h
  have e:c=c':=by have:=dB qP;simpa using this
  subst e
  obtain ⟨h1,h3⟩:=aG h2
  cases h3
  have ya:v'.cells=[v']:=by cases v'<;>first |rfl |(simp [AV.aR] at h1;done)
  rw [ya]
  refine ⟨fun k c hk=>?_,fun J2 _ hh=>fin J2 ?_⟩
  ·cases k with
   |zero=>cases hk;exact hc
   |succ k=>simp at hk
  ·simp only [loadT]
   rw [show J2.ld b f=some v' from hh 0 v' rfl,Option.bind_some,bY,qP,Option.bind_some,h1];rfl
 |agg ls=>
  rw [hT] at iD fin
  simp only [loadT] at iD
  rw [fJ] at iD
  obtain ⟨vs,hvs,h⟩:=Option.bind_eq_some_iff.1 iD
  cases h
  refine ⟨(ma (J2:=J) ls f vs hvs).1,fun J2 _ hh=>fin J2 ?_⟩
  simp only [loadT]
  rw [fJ,(ma (J2:=J2) ls f vs hvs).2 hh];rfl
 |aB ts=>rw [hT] at iD;cases iD
theorem tR {t t' ty:TypeId} {x:Operand} {e:Env} {J J':AH O} {nid:Nat} {v:AV} (h:dX P G (.convert t t' x) ty e J nid two=some (v,J')):
  J'=J/\∀ J2 tX,(∀ a m,ev e x=.sl a m->J2.bT a m 1=J.bT a m 1)->dX P G (.convert t t' x) ty e J2 tX two=some (v,J2):=by
 simp only [dX] at h ⊢
 split at h
 ·rename_i a m hx
  rw [hx]
  split at h
  ·rename_i el hu DR
   split at h
   ·rename_i vi
    obtain ⟨cs,ya,h⟩:=Option.bind_eq_some_iff.1 h
    obtain ⟨l,hl,h⟩:=Option.bind_eq_some_iff.1 h
    simp only [two,Option.some.injEq,Prod.mk.injEq] at h
    obtain ⟨rfl,rfl⟩:=h
    refine ⟨rfl,fun J2 _ hh=>?_⟩
    simp only [hh a m rfl,ya,Option.bind_some,hl]
   ·cases h
  ·cases h
 ·rename_i db
  rw [iT] at h
  obtain ⟨x',hx,h⟩:=Option.bind_eq_some_iff.1 h
  simp only [two,Option.some.injEq,Prod.mk.injEq] at h
  obtain ⟨rfl,rfl⟩:=h
  refine ⟨rfl,fun J2 tX _=>?_⟩
  rw [iT,hx];rfl
end Go.Abs
