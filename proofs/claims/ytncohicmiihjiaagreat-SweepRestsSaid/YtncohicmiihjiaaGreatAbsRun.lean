/-
  AbsRun: a function does what 'run' says.
-/
import Derived.Test.YtncohicmiihjiaaGreatAbsExec
set_option linter.unusedVariables false
set_option linter.unusedSimpArgs false
set_option linter.constructorNameAsVariable false
namespace Go.Abs
open Go
variable {O:Type} {RO:O->Loc->(Nat->Option Obj)->Prop} {P:Program} {G:List (Nat × Sm O)} {n:Nat}
theorem uE:∀ {R:Type} (Vd:List Ty) (i:Nat) (xs:List AV) (e:Env) (K:Env->Option R) (r:R),Ea Vd i xs e K=some r->
  ∃ e',K e'=some r/\∀ t,e' t=e t ∨ (t<i+Vd.length/\e' t=xs.getD t .u)
 |_,[],i,xs,e,K,r,h=>⟨e,h,fun _=>.inl rfl⟩
 |_,ty::Vd,i,xs,e,K,r,h=>by
  simp only [Ea] at h
  have h:=jX h
  obtain ⟨e',h1,h2⟩:=uE Vd (i+1) xs _ K r h
  refine ⟨e',h1,fun t=>?_⟩
  rcases h2 t with q |⟨q1,q2⟩
  ·rw [Env.jw] at q
   by_cases ht:t=i
   ·subst ht;rw [if_pos rfl] at q;exact .inr ⟨by simp,q⟩
   ·rw [if_neg ht] at q;exact .inl q
  ·exact .inr ⟨by simp;omega,q2⟩
def uF (tmps:Array Value) (x:ResultVar):Sem Value:=
 match x with
 |.tmp t=>pure (tmps.getD t undef)
 |.cell q t=>do loadVar t (<-asAddr (tmps.getD q undef))
theorem qV {ρ:bT} {fp:Fp} {J:AH O} {w:World} {e:Env} {a:Act} (he:aC n ρ e a) (aA:Rel RO P ρ fp J w):∀ (rs:List ResultVar) (K:List AV->Option (AV × AH O)) (r:AV × AH O),Cq P e J rs K=some r->
  ∃ vs us,K vs=some r/\aL ρ vs us/\(rs.mapM (uF a.tmps)).run P w=.ok us w
 |[],K,r,h=>⟨[],[],h,.nil,by simp⟩
 |.tmp t::rs,K,r,h=>by
  simp only [Cq] at h
  obtain ⟨vs,us,h1,h2,h3⟩:=qV he aA rs _ r h
  exact ⟨e t::vs,a.tmps.getD t undef::us,h1,.cons _ _ _ _ (he.get t) h2,by simp [List.mapM_cons,h3,uF]⟩
 |.cell q t::rs,K,r,h=>by
  simp only [Cq] at h
  have hq:=he.get q
  obtain ⟨b,o,hb,h⟩:=gq h
  rw [hb] at hq
  obtain ⟨L,hL,uq⟩:=hq.wN
  obtain ⟨nL,h⟩:=aF h
  obtain ⟨v,u,hk,hr,_,fN,_⟩:=rT aA hL nL h
  obtain ⟨vs,us,h1,h2,h3⟩:=qV he aA rs _ r hk
  refine ⟨v::vs,u::us,h1,.cons _ _ _ _ hr h2,?_⟩
  simp only [List.mapM_cons,Sem.run_bind,uF,uq,asAddr,Sem.run_pure,Result.andThen_ok,fN,h3]
def SM (f:Func):Bool:=
 match f.body with
 |some c=>jE f.ntmps c && Nat.ble (f.params.size+f.nfree) f.ntmps && plain c
 |none=>false
theorem cm:∀ (c:Code) (an:pd),plain c=true->bp c an=[]
 |.skip,_,_=>rfl
 |.label _,_,_=>rfl
 |.exit _,_,_=>rfl
 |.ret,_,_=>rfl
 |.region _ _ _,_,_=>rfl
 |.goto _,_,_=>rfl
 |.refuse _,_,_=>rfl
 |.seq a b,an,h=>by
  simp only [plain,Bool.and_eq_true] at h
  simp only [bp,cm a an.l h.1,cm b an.r h.2,List.append_nil]
 |.cond _ a b,an,h=>by
  simp only [plain,Bool.and_eq_true] at h
  simp only [bp,cm a an.l h.1,cm b an.r h.2,List.append_nil]
 |.block _ c,an,h=>by
  simp only [plain] at h
  simp only [bp,cm c an.l h]
 |.loop c,an,h=>by
  simp only [plain] at h
  unfold bp
  split
  ·exact cm c _ h
  ·exact cm c _ h
  ·rfl
 |.scope c,an,h=>by
  simp only [plain] at h
  simp only [bp,cm c an.l h]
 |.rangeFunc _ _ _ _,_,h=>by simp [plain] at h
theorem Rel.mark {ρ:bT} {fp:Fp} {J:AH O} {w:World} (h:Rel RO P ρ fp J w) {r:Nat} {ob:Obj} (h1:w.heap[r]? = some (.deferred (some []))) (h2:∀ b,fp b r=none):Rel RO P ρ fp J (w.putObj r ob) where
 next:=h.next
 aa:=fun b x L hx hL=>(h.aa b x L hx hL).mono (bT.le_refl _)
 dead:=h.dead
 has:=fun b B o hb=>by
  rw [World.putObj_heap_other fun e=>by rw [e,h2 b] at hb;cases hb];exact h.has b B o hb
 iC:=h.iC
 fz:=fun B o u hu=>by
  obtain ⟨g1,g2⟩:=h.fz B o u hu
  refine ⟨?_,g2⟩
  rw [World.cell?_of_block (w:=w) (World.putObj_heap_other fun e=>?_)]
  ·exact g1
  ·subst e;simp [World.cell?,h1] at g1
theorem pE {fn:Func} {tmps:Array Value} {R:Ending->World->Prop} {B0:Nat} {fp0:Fp} {w0:World} {ρ:bT} {fp:Fp} {J:AH O}
  (hB:w0.heap.size<=B0) (fin:∀ w',Rel RO P ρ fp J w'->Fr fp0 w0 w'->∃ v,(results fn tmps).run P w'=.ok v w'/\R (.returned v) w'):
  ∀ (ds:List Deferred) (w:World),Marks B0 fp w ds->Rel RO P ρ fp J w->Fr fp0 w0 w->LeavesInM (Fw none) 0 P fn tmps R ds .returning w
 |[],w,_,hr,hf=>fin w hr hf
 |d::ds,w,hm,hr,hf=>by
  obtain ⟨r,h1,h2,h3,h4⟩:=hm.it d (List.mem_cons_self ..)
  have aY:=(Array.getElem?_eq_some_iff.1 h3).1
  refine ⟨by simp,.inl ⟨r,w.putObj r (.deferred none),h1,run_takeDeferred h3,?_⟩⟩
  have hnd:=hm.nd
  simp only [List.map_cons,List.nodup_cons] at hnd
  refine pE hB fin ds _ ⟨by simpa using hm.sz,hnd.2,fun d' kC=>?_⟩ (Rel.mark hr h3 h4) ⟨hf.os,hf.tape,hf.output,by simpa using hf.size,fun B hB' hn=>?_⟩
  ·obtain ⟨r',k1,k2,k3,k4⟩:=hm.it d' (List.mem_cons_of_mem _ kC)
   refine ⟨r',k1,k2,?_,k4⟩
   rw [World.putObj_heap_other fun e=>hnd.1 (List.mem_map.2 ⟨d',kC,by rw [k1,h1,e]⟩)]
   exact k3
  ·rw [World.putObj_heap_other fun e=>by omega]
   exact hf.dV B hB' hn
theorem CU (hG:eH RO P G) (hm:P.follows .mixedOrders=true) {f:FuncId} {fn:Func} {c:Code} (hf:P.funcs[f]? = some fn) (hb:fn.body=some c) (hd:jE fn.ntmps c=true) (hp:fn.params.size+fn.nfree<=fn.ntmps) (an:pd)
  (hs:∀ p,p∈bp c an->kA P p.1=some p.2):ah RO P f (run P G fn an):=by
 intro xs J v J' h ρ fp w args hargs aA
 unfold run at h
 simp only [hb] at h
 obtain ⟨hlen,h⟩:=aF h
 have hlen:=Nat.eq_of_beq_eq_true hlen
 have eI:=hargs.length
 simp only [Array.length_toList] at eI
 refine nZ.1 (callsIn_of_wp_marks (F:=Fw none) (n:=0) hf hb trivial ?_)
 obtain ⟨e',h1,h2⟩:=uE _ _ _ _ _ _ h
 obtain ⟨x,e1,J1,g1,g2⟩:=dX (n:=fn.ntmps) (ro:=none) hG hm c hd (.inl rfl) an hs e' J _ _ h1
 have he:aC fn.ntmps ρ e' {tmps:=args++Array.replicate (fn.ntmps - args.size) undef,defers:=[]}:=by
  refine ⟨by simp;omega,fun t=>?_⟩
  rcases h2 t with q |⟨q1,q2⟩
  ·rw [q];exact .u _
  ·simp only [List.length_append,List.length_replicate,List.length_map,Array.length_toList,Nat.zero_add] at q1
   rw [q2]
   have ht:t<xs.length:=by omega
   obtain ⟨u,hu,hr⟩:=hargs.get (List.getElem?_eq_getElem ht)
   have D3:args[t]? = some u:=by simpa using hu
   have ht2:t<args.size:=by omega
   have e1:xs.getD t .u=xs[t]:=by simp [List.getD,ht]
   have e2:(args++Array.replicate (fn.ntmps - args.size) undef).getD t undef=u:=by
    simp only [Array.getD_eq_getD_getElem?,Array.getElem?_append_left ht2,D3,Option.getD_some]
   rw [e1];show aK ρ _ ((args++Array.replicate (fn.ntmps - args.size) undef).getD t undef)
   rw [e2];exact hr
 refine g2 ρ fp _ w he aA _ fun a' w' aQ fp' k1 k2 k3 k4=>?_
 have Ej:=k2 w.heap.size ⟨Nat.le_refl _,by simp,fun d kC=>by cases kC⟩
 have fin:Cq P e1 J1 fn.results.toList (fun vs=>some (Aa vs,J1))=some (v,J')->∀ R:Ending->World->Prop,(R=fun x w'=>∃ aQ fp' u,x=.returned u/\aK aQ v u/\aR RO P (· < J.next) ρ fp J w aQ fp' J' w')->LeavesInM (Fw none) 0 P fn a'.tmps R a'.defers .returning w':=by
  intro Nt R hR
  have qN:∀ vI,Rel RO P aQ fp' J1 vI->Fr fp w vI->∃ u,(results fn a'.tmps).run P vI=.ok u vI/\R (.returned u) vI:=by
   intro vI Xy agy
   obtain ⟨vs,us,q1,q2,q3⟩:=qV k1 Xy _ _ _ Nt
   simp only [Option.some.injEq,Prod.mk.injEq] at q1
   obtain ⟨rfl,rfl⟩:=q1
   have hl:=q2.length
   have k4':aR RO P (· < J.next) ρ fp J w aQ fp' J1 vI:=⟨Xy,agy,k4.grow,k4.Np,k4.le,k4.ext,k4.blank,k4.next⟩
   subst hR
   refine ⟨if h:us.toArray.size=1 then us.toArray[0] else .tuple us.toArray,?_,aQ,fp',_,rfl,?_,k4'⟩
   ·have q4:(fn.results.mapM (uF a'.tmps)).run P vI=.ok us.toArray vI:=by
     rw [Array.mapM_eq_mapM_toList,Sem.run_map,q3];rfl
    show ((fn.results.mapM (uF a'.tmps)) >>= fun vs=>(pure (if h:vs.size=1 then vs[0] else .tuple vs):Sem Value)).run P vI=_
    rw [Sem.run_bind,q4];rfl
   ·match vs,us,q2,hl with
    |[],[],q2,_=>exact .aG _ _ q2
    |[v1],[u1],q2,_=>
     cases q2 with
     |cons _ _ _ _ a1 a2=>exact a1
    |v1::v2::vs,u1::u2::us,q2,_=>
     rw [dif_neg (by simp)]
     exact .aG _ _ q2
  exact pE (B0:=w.heap.size) (fp0:=fp) (w0:=w) (Nat.le_refl _) qN a'.defers w' Ej k4.rel k4.fr
 cases x with
 |norm=>exact fin g1 _ rfl
 |ret=>exact fin g1 _ rfl
 |exit id=>cases g1
theorem eY (hG:eH RO P G) (hm:P.follows .mixedOrders=true) {f:FuncId} {fn:Func} (hf:P.funcs[f]? = some fn) (jr:SM fn=true) (an:pd):ah RO P f (run P G fn an):=by
 unfold SM at jr
 cases hb:fn.body with
 |none=>rw [hb] at jr;cases jr
 |some c=>
  rw [hb] at jr
  simp only [Bool.and_eq_true] at jr
  exact CU hG hm hf hb jr.1.1 (Nat.le_of_ble_eq_true jr.1.2) an (fun p hp=>by rw [cm c an jr.2] at hp;cases hp)
theorem aJ:eH RO P []:=fun _ _ h=>by cases h
theorem ab {f:FuncId} {s:Sm O} (h1:ag P f) (h2:ah RO P f s) (h:eH RO P G) (hf:f<kx:=by decide):eH RO P ((f,s)::G):=fun g t hm=>by
 rcases List.mem_cons.1 hm with e |hm
 ·cases e;exact .inl ⟨hf,h1,h2⟩
 ·exact h g t hm
theorem Xz {f:FuncId} {s:Sm O} (h1:iW P f s) (h:eH RO P G) (hf:f<kx:=by decide):eH RO P ((f,s)::G):=fun g t hm=>by
 rcases List.mem_cons.1 hm with e |hm
 ·cases e;exact .inr (.inl ⟨hf,h1⟩)
 ·exact h g t hm
theorem qJ.or {a b:Sm O} (ha:qJ RO P a) (hb:qJ RO P b):qJ RO P (orR a b):=by
 intro k o ys J v J' h
 unfold orR at h
 split at h
 ·rename_i r hr;cases h;exact ha k o ys J v J' hr
 ·exact hb k o ys J v J' h
end Go.Abs
