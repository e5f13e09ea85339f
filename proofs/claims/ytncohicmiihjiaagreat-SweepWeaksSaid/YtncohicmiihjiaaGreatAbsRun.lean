/-
  AbsRun: a function does what 'run' says.
-/
import Derived.Test.YtncohicmiihjiaaGreatAbsExec
set_option linter.unusedVariables false
set_option linter.unusedSimpArgs false
set_option linter.constructorNameAsVariable false
namespace Go.Abs
open Go
variable {O:Type} {RO:O->Loc->(Nat->Option Obj)->Prop} {P:Program} {G:List (Nat × Sm O)} {n:Nat}
theorem uC:∀ {R:Type} (Un:List Ty) (i:Nat) (xs:List AV) (e:Env) (K:Env->Option R) (r:R),DY Un i xs e K=some r->
  ∃ e',K e'=some r/\∀ t,e' t=e t ∨ (t<i+Un.length/\e' t=xs.getD t .u)
 |_,[],i,xs,e,K,r,h=>⟨e,h,fun _=>.inl rfl⟩
 |_,ty::Un,i,xs,e,K,r,h=>by
  simp only [DY] at h
  have h:=j9 h
  obtain ⟨e',h1,h2⟩:=uC Un (i+1) xs _ K r h
  refine ⟨e',h1,fun t=>?_⟩
  rcases h2 t with q |⟨q1,q2⟩
  ·rw [Env.kE] at q
   by_cases ht:t=i
   ·subst ht;rw [if_pos rfl] at q;exact .inr ⟨by simp,q⟩
   ·rw [if_neg ht] at q;exact .inl q
  ·exact .inr ⟨by simp;omega,q2⟩
def uD (tmps:Array Value) (x:ResultVar):Sem Value:=
 match x with
 |.tmp t=>pure (tmps.getD t undef)
 |.cell q t=>do loadVar t (<-asAddr (tmps.getD q undef))
theorem rh {ρ:bX} {fp:Fp} {J:AH O} {w:World} {e:Env} {a:Act} (he:aJ n ρ e a) (aC:Rel RO P ρ fp J w):∀ (rs:List ResultVar) (K:List AV->Option (AV × AH O)) (r:AV × AH O),B9 P e J rs K=some r->
  ∃ vs us,K vs=some r/\aL ρ vs us/\(rs.mapM (uD a.tmps)).run P w=.ok us w
 |[],K,r,h=>⟨[],[],h,.nil,by simp⟩
 |.tmp t::rs,K,r,h=>by
  simp only [B9] at h
  obtain ⟨vs,us,h1,h2,h3⟩:=rh he aC rs _ r h
  exact ⟨e t::vs,a.tmps.getD t undef::us,h1,.cons _ _ _ _ (he.get t) h2,by simp [List.mapM_cons,h3,uD]⟩
 |.cell q t::rs,K,r,h=>by
  simp only [B9] at h
  have hq:=he.get q
  obtain ⟨b,o,hb,h⟩:=gn h
  rw [hb] at hq
  obtain ⟨L,hL,uq⟩:=hq.wL
  obtain ⟨nP,h⟩:=aG h
  obtain ⟨v,u,hk,hr,_,jM,_⟩:=si aC hL nP h
  obtain ⟨vs,us,h1,h2,h3⟩:=rh he aC rs _ r hk
  refine ⟨v::vs,u::us,h1,.cons _ _ _ _ hr h2,?_⟩
  simp only [List.mapM_cons,Sem.run_bind,uD,uq,asAddr,Sem.run_pure,Result.andThen_ok,jM,h3]
def RT (f:Func):Bool:=
 match f.body with
 |some c=>kG f.ntmps c && Nat.ble (f.params.size+f.nfree) f.ntmps && plain c
 |none=>false
def PZ (f:Func):Bool:=
 match f.body with
 |some c=>kG f.ntmps c && Nat.ble (f.params.size+f.nfree) f.ntmps && Nat.blt (eZ c).length 1000
 |none=>false
def RU:Nat->List (Array Tmp × Code × Code)->List (Nat × (Array Tmp × Code × Code))
 |_,[]=>[]
 |s,x::xs=>(s,x)::RU (s+1) xs
theorem wY:∀ (xs:List (Array Tmp × Code × Code)) (s:Nat) (p:Nat × (Array Tmp × Code × Code)),p∈RU s xs->∃ k,k<xs.length/\p.1=s+k/\xs[k]? = some p.2
 |[],_,_,h=>by cases h
 |x::xs,s,p,h=>by
  rcases List.mem_cons.1 h with e |h
  ·subst e;exact ⟨0,by simp,rfl,rfl⟩
  ·obtain ⟨k,h1,h2,h3⟩:=wY xs (s+1) p h
   exact ⟨k+1,by simp;omega,by rw [h2];omega,by simpa using h3⟩
theorem bU:∀ (c:Code) (an:og),plain c=true->bE c an=[]
 |.skip,_,_=>rfl
 |.label _,_,_=>rfl
 |.exit _,_,_=>rfl
 |.ret,_,_=>rfl
 |.region _ _ _,_,_=>rfl
 |.goto _,_,_=>rfl
 |.refuse _,_,_=>rfl
 |.seq a b,an,h=>by
  simp only [plain,Bool.and_eq_true] at h
  simp only [bE,bU a an.l h.1,bU b an.r h.2,List.append_nil]
 |.cond _ a b,an,h=>by
  simp only [plain,Bool.and_eq_true] at h
  simp only [bE,bU a an.l h.1,bU b an.r h.2,List.append_nil]
 |.block _ c,an,h=>by
  simp only [plain] at h
  simp only [bE,bU c an.l h]
 |.loop c,an,h=>by
  simp only [plain] at h
  unfold bE
  split
  ·exact bU c _ h
  ·rfl
 |.scope c,an,h=>by
  simp only [plain] at h
  simp only [bE,bU c an.l h]
 |.rangeFunc _ _ _ _,_,h=>by simp [plain] at h
theorem Rel.mark {ρ:bX} {fp:Fp} {J:AH O} {w:World} (h:Rel RO P ρ fp J w) {r:Nat} {ob:Obj} (h1:w.heap[r]? = some (.deferred (some []))) (h2:∀ b,fp b r=none):Rel RO P ρ fp J (w.putObj r ob) where
 next:=h.next
 aa:=fun b x L hx hL=>(h.aa b x L hx hL).mono (bX.le_refl _)
 dead:=h.dead
 has:=fun b B o hb=>by
  rw [World.putObj_heap_other fun e=>by rw [e,h2 b] at hb;cases hb];exact h.has b B o hb
 iH:=h.iH
 fz:=fun B o u hu=>by
  obtain ⟨g1,g2⟩:=h.fz B o u hu
  refine ⟨?_,g2⟩
  rw [World.cell?_of_block (w:=w) (World.putObj_heap_other fun e=>?_)]
  ·exact g1
  ·subst e;simp [World.cell?,h1] at g1
theorem pS {fn:Func} {tmps:Array Value} {R:Ending->World->Prop} {B0:Nat} {fp0:Fp} {w0:World} {ρ:bX} {fp:Fp} {J:AH O}
  (hB:w0.heap.size<=B0) (fin:∀ w',Rel RO P ρ fp J w'->Fr fp0 w0 w'->∃ v,(results fn tmps).run P w'=.ok v w'/\R (.returned v) w'):
  ∀ (ds:List Deferred) (w:World),Marks B0 fp w ds->Rel RO P ρ fp J w->Fr fp0 w0 w->LeavesInM (Fw none) 0 P fn tmps R ds .returning w
 |[],w,_,hr,hf=>fin w hr hf
 |d::ds,w,hm,hr,hf=>by
  obtain ⟨r,h1,h2,h3,h4⟩:=hm.it d (List.mem_cons_self ..)
  have bp:=(Array.getElem?_eq_some_iff.1 h3).1
  refine ⟨by simp,.inl ⟨r,w.putObj r (.deferred none),h1,run_takeDeferred h3,?_⟩⟩
  have hnd:=hm.nd
  simp only [List.map_cons,List.nodup_cons] at hnd
  refine pS hB fin ds _ ⟨by simpa using hm.sz,hnd.2,fun d' vD=>?_⟩ (Rel.mark hr h3 h4) ⟨hf.os,hf.tape,hf.output,by simpa using hf.size,fun B hB' hn=>?_⟩
  ·obtain ⟨r',k1,k2,k3,k4⟩:=hm.it d' (List.mem_cons_of_mem _ vD)
   refine ⟨r',k1,k2,?_,k4⟩
   rw [World.putObj_heap_other fun e=>hnd.1 (List.mem_map.2 ⟨d',vD,by rw [k1,h1,e]⟩)]
   exact k3
  ·rw [World.putObj_heap_other fun e=>by omega]
   exact hf.dv B hB' hn
theorem uE (hG:cS RO P G) (hm:P.follows .mixedOrders=true) {f:FuncId} {fn:Func} {c:Code} (hf:P.funcs[f]? = some fn) (hb:fn.body=some c) (hd:kG fn.ntmps c=true) (hp:fn.params.size+fn.nfree<=fn.ntmps) (an:og)
  (hs:∀ p,p∈bE c an->gW P p.1=some p.2):ai RO P f (run P G fn an):=by
 intro xs J v J' h ρ fp w args hargs aC
 unfold run at h
 simp only [hb] at h
 obtain ⟨hlen,h⟩:=aG h
 have hlen:=Nat.eq_of_beq_eq_true hlen
 have eT:=hargs.length
 simp only [Array.length_toList] at eT
 refine oB.1 (callsIn_of_wp_marks (F:=Fw none) (n:=0) hf hb trivial ?_)
 obtain ⟨e',h1,h2⟩:=uC _ _ _ _ _ _ h
 obtain ⟨x,e1,J1,g1,g2⟩:=dG (n:=fn.ntmps) (ro:=none) hG hm c hd (.inl rfl) an hs e' J _ _ h1
 have he:aJ fn.ntmps ρ e' {tmps:=args++Array.replicate (fn.ntmps - args.size) undef,defers:=[]}:=by
  refine ⟨by simp;omega,fun t=>?_⟩
  rcases h2 t with q |⟨q1,q2⟩
  ·rw [q];exact .u _
  ·simp only [List.length_append,List.length_replicate,List.length_map,Array.length_toList,Nat.zero_add] at q1
   rw [q2]
   have ht:t<xs.length:=by omega
   obtain ⟨u,hu,hr⟩:=hargs.get (List.getElem?_eq_getElem ht)
   have DR:args[t]? = some u:=by simpa using hu
   have ht2:t<args.size:=by omega
   have e1:xs.getD t .u=xs[t]:=by simp [List.getD,ht]
   have e2:(args++Array.replicate (fn.ntmps - args.size) undef).getD t undef=u:=by
    simp only [Array.getD_eq_getD_getElem?,Array.getElem?_append_left ht2,DR,Option.getD_some]
   rw [e1];show aK ρ _ ((args++Array.replicate (fn.ntmps - args.size) undef).getD t undef)
   rw [e2];exact hr
 refine g2 ρ fp _ w he aC _ fun a' w' aQ fp' k1 k2 k3 k4=>?_
 have Uz:=k2 w.heap.size ⟨Nat.le_refl _,by simp,fun d vD=>by cases vD⟩
 have fin:B9 P e1 J1 fn.results.toList (fun vs=>some (zY vs,J1))=some (v,J')->∀ R:Ending->World->Prop,(R=fun x w'=>∃ aQ fp' u,x=.returned u/\aK aQ v u/\aS RO P (· < J.next) ρ fp J w aQ fp' J' w')->LeavesInM (Fw none) 0 P fn a'.tmps R a'.defers .returning w':=by
  intro MN R hR
  have IE:∀ vE,Rel RO P aQ fp' J1 vE->Fr fp w vE->∃ u,(results fn a'.tmps).run P vE=.ok u vE/\R (.returned u) vE:=by
   intro vE WG af8
   obtain ⟨vs,us,q1,q2,q3⟩:=rh k1 WG _ _ _ MN
   simp only [Option.some.injEq,Prod.mk.injEq] at q1
   obtain ⟨rfl,rfl⟩:=q1
   have hl:=q2.length
   have k4':aS RO P (· < J.next) ρ fp J w aQ fp' J1 vE:=⟨WG,af8,k4.grow,k4.MJ,k4.le,k4.ext,k4.blank,k4.next⟩
   subst hR
   refine ⟨if h:us.toArray.size=1 then us.toArray[0] else .tuple us.toArray,?_,aQ,fp',_,rfl,?_,k4'⟩
   ·have q4:(fn.results.mapM (uD a'.tmps)).run P vE=.ok us.toArray vE:=by
     rw [Array.mapM_eq_mapM_toList,Sem.run_map,q3];rfl
    show ((fn.results.mapM (uD a'.tmps)) >>= fun vs=>(pure (if h:vs.size=1 then vs[0] else .tuple vs):Sem Value)).run P vE=_
    rw [Sem.run_bind,q4];rfl
   ·match vs,us,q2,hl with
    |[],[],q2,_=>exact .aB _ _ q2
    |[v1],[u1],q2,_=>
     cases q2 with
     |cons _ _ _ _ a1 a2=>exact a1
    |v1::v2::vs,u1::u2::us,q2,_=>
     rw [dif_neg (by simp)]
     exact .aB _ _ q2
  exact pS (B0:=w.heap.size) (fp0:=fp) (w0:=w) (Nat.le_refl _) IE a'.defers w' Uz k4.rel k4.fr
 cases x with
 |norm=>exact fin g1 _ rfl
 |ret=>exact fin g1 _ rfl
 |exit id=>cases g1
theorem eH (hG:cS RO P G) (hm:P.follows .mixedOrders=true) {f:FuncId} {fn:Func} (hf:P.funcs[f]? = some fn) (jv:RT fn=true) (an:og):ai RO P f (run P G fn an):=by
 unfold RT at jv
 cases hb:fn.body with
 |none=>rw [hb] at jv;cases jv
 |some c=>
  rw [hb] at jv
  simp only [Bool.and_eq_true] at jv
  exact uE hG hm hf hb jv.1.1 (Nat.le_of_ble_eq_true jv.1.2) an (fun p hp=>by rw [bU c an jv.2] at hp;cases hp)
theorem CB (hG:cS RO P G) (hm:P.follows .mixedOrders=true) {f:FuncId} {fn:Func} (hf:P.funcs[f]? = some fn) (jv:PZ fn=true) (an:og) (hs:(match fn.body with |some c=>bE c an |none=>[])=RU (f*1000) (match fn.body with |some c=>eZ c |none=>[])):ai RO P f (run P G fn an):=by
 unfold PZ at jv
 cases hb:fn.body with
 |none=>rw [hb] at jv;cases jv
 |some c=>
  rw [hb] at jv
  simp only [hb] at hs
  simp only [Bool.and_eq_true] at jv
  refine uE hG hm hf hb jv.1.1 (Nat.le_of_ble_eq_true jv.1.2) an (fun p hp=>?_)
  rw [hs] at hp
  obtain ⟨k,h1,h2,h3⟩:=wY _ _ _ hp
  have hk:k<1000:=Nat.lt_trans h1 (Nat.le_of_ble_eq_true jv.2)
  have e1:(f*1000+k) / 1000=f:=by rw [Nat.mul_comm,Nat.mul_add_div (by decide),Nat.div_eq_of_lt hk];rfl
  have e2:(f*1000+k) % 1000=k:=by rw [Nat.mul_comm,Nat.mul_add_mod,Nat.mod_eq_of_lt hk]
  unfold gW
  rw [h2,e1,e2,hf]
  simp [hb,h3]
theorem aE:cS RO P []:=fun _ _ h=>by cases h
theorem ae {f:FuncId} {s:Sm O} (h1:ag P f) (h2:ai RO P f s) (h:cS RO P G) (hf:f<jK:=by decide):cS RO P ((f,s)::G):=fun g t hm=>by
 rcases List.mem_cons.1 hm with e |hm
 ·cases e;exact .inl ⟨hf,h1,h2⟩
 ·exact h g t hm
theorem af9 {f:FuncId} {s:Sm O} (h1:me P f s) (h:cS RO P G) (hf:f<jK:=by decide):cS RO P ((f,s)::G):=fun g t hm=>by
 rcases List.mem_cons.1 hm with e |hm
 ·cases e;exact .inr (.inl ⟨hf,h1⟩)
 ·exact h g t hm
theorem af' {s:Sm O} (h1:gr RO P s) (h:cS RO P G):cS RO P ((jK,s)::G):=fun g t hm=>by
 rcases List.mem_cons.1 hm with e |hm
 ·cases e;exact .inr (.inr (.inl ⟨rfl,h1⟩))
 ·exact h g t hm
theorem grf {c:FuncId} {s:Sm O} (h1:ag P c) (h2:ai RO P c s) (h:cS RO P G):cS RO P ((c+sI,s)::G):=fun g t hm=>by
 rcases List.mem_cons.1 hm with e |hm
 ·cases e;exact .inr (.inr (.inr ⟨c,rfl,h1,h2⟩))
 ·exact h g t hm
theorem nU:∀ {l:List Nat},distinct l=true->l.Nodup
 |[],_=>List.nodup_nil
 |t::ts,h=>by
  simp only [distinct,Bool.and_eq_true,Bool.not_eq_true'] at h
  exact List.nodup_cons.2 ⟨fun hm=>(by rw [List.elem_eq_true_of_mem hm] at h;cases h.1),nU h.2⟩
theorem kJ {t:Nat}:∀ (ts:List Nat) (us:List Value) (tmps:Array Value),t∉ts->((ts.zip us).foldl (fun tmps (t,a)=>tmps.setIfInBounds t a) tmps).getD t undef=tmps.getD t undef
 |[],_,_,_=>by simp
 |_::_,[],_,_=>by simp
 |q::ts,u::us,tmps,h=>by
  simp only [List.zip_cons_cons,List.foldl_cons]
  rw [kJ ts us _ fun hm=>h (List.mem_cons_of_mem _ hm)]
  have:q≠t:=fun e=>h (by simp [e])
  simp [Array.getD_eq_getD_getElem?,Array.getElem?_setIfInBounds_ne this]
theorem my:∀ (ts:List Nat) (us:List Value) (tmps:Array Value),((ts.zip us).foldl (fun tmps (t,a)=>tmps.setIfInBounds t a) tmps).size=tmps.size
 |[],_,_=>by simp
 |_::_,[],_=>by simp
 |q::ts,u::us,tmps=>by
  simp only [List.zip_cons_cons,List.foldl_cons]
  rw [my ts us];simp
theorem pT {n:Nat}:∀ (ts:List Nat) (us:List Value) (tmps:Array Value),tmps.size=n->(∀ t∈ts,t<n)->ts.Nodup->∀ (j t:Nat) (u:Value),ts[j]? = some t->us[j]? = some u->((ts.zip us).foldl (fun tmps (t,a)=>tmps.setIfInBounds t a) tmps).getD t undef=u
 |[],_,_,_,_,_,j,t,u,h,_=>by simp at h
 |_::_,[],_,_,_,_,j,t,u,_,h=>by simp at h
 |q::ts,v::us,tmps,hn,hb,hd,j,t,u,h1,h2=>by
  simp only [List.zip_cons_cons,List.foldl_cons]
  have hd:=List.nodup_cons.1 hd
  cases j with
  |zero=>
   simp only [List.getElem?_cons_zero,Option.some.injEq] at h1 h2
   subst h1;subst h2
   rw [kJ ts us _ hd.1]
   have:q<tmps.size:=by rw [hn];exact hb q (List.mem_cons_self ..)
   simp [Array.getD_eq_getD_getElem?,this]
  |succ j=>
   exact pT ts us _ (by simpa using hn) (fun t ht=>hb t (List.mem_cons_of_mem _ ht)) hd.2 j t u (by simpa using h1) (by simpa using h2)
theorem uF {ρ:bX} {tmps:Array Value}:∀ (l:List (Nat × AV)),(∀ t v,(t,v)∈l->aK ρ v (tmps.getD t undef))->∀ t,aK ρ (tQ l t) (tmps.getD t undef)
 |[],_,t=>.u _
 |(q,v)::l,h,t=>by
  simp only [tQ]
  cases hq:Nat.beq t q with
  |true=>rw [cond_true,Nat.eq_of_beq_eq_true hq];exact h q v (List.mem_cons_self ..)
  |false=>rw [cond_false];exact uF l (fun t v hm=>h t v (List.mem_cons_of_mem _ hm)) t
theorem CC {J J':AH O} {b:Nat} {st:Fs} (h:pE J b st=some J'):∃ s env st0,J.aa b=some (.loop s env st0)/\J'=J.put b (.loop s env st):=by
 unfold pE at h
 split at h
 ·rename_i s e st0 hb;cases h;exact ⟨s,e,st0,hb,rfl⟩
 ·cases h
theorem CD {J J':AH O} {b:Nat} (h:zX J b=some J'):∃ s env,J.aa b=some (.loop s env .ready)/\J'=J.put b (.loop s env .busy):=by
 unfold zX at h
 split at h
 ·rename_i s e hb;cases h;exact ⟨s,e,hb,rfl⟩
 ·cases h
theorem yy (hG:cS RO P G) (hm:P.follows .mixedOrders=true) {site:Nat} {ps:Array Tmp} {DX body:Code} (hs:gW P site=some (ps,DX,body)) (Cb:(plain DX && plain body)=true) {Hl FD:List (Nat × Ty)} (V6:FD.map (·.1)=ps.toList) (RV:distinct (Hl.map (·.1)++FD.map (·.1))=true) (an:og):gr RO P (B8 P G site ps.toList DX body Hl FD an):=by
 intro b o ys J v J' h ρ fp w args L hL hargs aC
 simp only [Bool.and_eq_true] at Cb
 simp only [B8,x8] at h
 split at h
 ·rename_i s env Ce
  obtain ⟨hc,h'⟩:=aG h
  clear h
  simp only [Bool.and_eq_true] at hc
  have hsi:=Nat.eq_of_beq_eq_true hc.1
  have IF:=Nat.eq_of_beq_eq_true hc.2
  subst hsi
  have eT:=hargs.length
  simp only [Array.length_toList] at eT IF
  obtain ⟨r,x,g1,g2,g3,g4,g5,g6,g7,g8⟩:=aC.aa _ _ _ Ce hL
  rw [hs] at g2
  cases g2
  simp only at g3 g4 g5 g7
  have D8:w.heap[L.B]? = some (.loop r):=aC.has _ _ _ (by rw [g1];exact bO _ _)
  refine ⟨r,D8,by rw [g3,<-eT,IF],roundIn_of_wpIn trivial ?_⟩
  have e0:(r.params.zip args).foldl (fun tmps (t,a)=>tmps.setIfInBounds t a) r.tmps=(ps.toList.zip args.toList).foldl (fun tmps (t,a)=>tmps.setIfInBounds t a) r.tmps:=by
   rw [g3,<-Array.foldl_toList];simp
  obtain ⟨ea,h',ka⟩:=iL _ _ _ _ _ _ h'
  obtain ⟨eb,h',kb⟩:=iL _ _ _ _ _ _ h'
  obtain ⟨x1,e1,J1,h1,h2⟩:=dG (n:=r.tmps.size) (ro:=some L.B) hG hm DX (List.all_eq_true.2 fun t ht=>Nat.ble_eq_true_of_le (g7 t (by simp [ht]))) (.inr Cb.1) an.l (fun p hp=>by rw [bU _ _ Cb.1] at hp;cases hp) _ _ _ _ h'
  have hnd:=List.nodup_append.1 (nU RV)
  have hps:∀ t∈ps.toList,t<r.tmps.size:=fun t ht=>g7 t (by simp at ht;simp [ht])
  have he:aJ r.tmps.size ρ eb {tmps:=(r.params.zip args).foldl (fun tmps (t,a)=>tmps.setIfInBounds t a) r.tmps,defers:=[]}:=by
   rw [e0]
   refine ⟨my _ _ _,fun t=>?_⟩
   show aK ρ _ (((ps.toList.zip args.toList).foldl (fun tmps (t,a)=>tmps.setIfInBounds t a) r.tmps).getD t undef)
   rcases kb t with q |⟨j,ty,q1,q2⟩
   ·rw [q]
    rcases ka t with q |⟨j,ty,q1,q2⟩
    ·rw [q];exact .u _
    ·rw [q2,Nat.zero_add,kJ _ _ _ (fun hm=>by
      rw [<-V6] at hm
      exact hnd.2.2 t (List.mem_map.2 ⟨(t,ty),List.mem_of_getElem? q1,rfl⟩) t hm rfl)]
     have:(Hl.map fun p=>tQ env p.1).getD j .u=tQ env t:=by simp [List.getD,List.getElem?_map,q1]
     rw [this]
     exact uF env g8 t
   ·rw [q2,Nat.zero_add]
    have e1:ps.toList[j]? = some t:=by rw [<-V6,List.getElem?_map,q1];rfl
    have hj:j<ys.length:=by rw [IF];exact (List.getElem?_eq_some_iff.1 e1).1
    obtain ⟨u,hu,hr⟩:=hargs.get (List.getElem?_eq_getElem hj)
    rw [pT ps.toList args.toList r.tmps rfl hps (V6▸hnd.2.1) j t u e1 hu]
    have:ys.getD j .u=ys[j]:=by simp [List.getD,hj]
    rw [this];exact hr
  rw [g4,g5]
  refine h2 ρ fp _ w he aC _ fun a1 w1 LR wJ k1 _ _ k4=>?_
  cases x1 with
  |ret=>cases h1
  |exit id=>cases h1
  |norm=>
   simp only at h1
   obtain ⟨J2,WH,h1⟩:=Option.bind_eq_some_iff.1 h1
   obtain ⟨s1,agb,cK,rfl⟩:=CD WH
   have Il:=k4.le.l _ _ hL
   obtain ⟨r1,x1,f1,f2,f3,f4,f5,f6,f7,f8⟩:=k4.rel.aa _ _ _ cK Il
   have hh1:w1.heap[L.B]? = some (.loop r1):=k4.rel.has _ _ _ (by rw [f1];exact bO _ _)
   refine ⟨_,run_beginRound hh1 f6.1,?_⟩
   obtain ⟨D6,p2⟩:=aS.ym (S:=(· < J.next)) k4.rel cK Il f1 (x1:=.loop s1 agb .busy) (ob':=.loop {r1 with state:=.busy}) (fun w'=>⟨{r1 with state:=.busy},x1,rfl,f2,f3,f4,f5,rfl,f7,f8⟩)
   obtain ⟨x2,e2,J2,b1,b2⟩:=dG (n:=r.tmps.size) (ro:=some L.B) hG hm body (List.all_eq_true.2 fun t ht=>Nat.ble_eq_true_of_le (g7 t (by simp [ht]))) (.inr Cb.2) an.r (fun p hp=>by rw [bU _ _ Cb.2] at hp;cases hp) _ _ _ _ h1
   refine b2 LR D6 a1 _ k1 p2.rel _ fun a3 w3 ρ3 Bw _ _ _ m4=>?_
   have T:=(k4.trans p2).trans (m4.mono fun b (hb:b<J.next)=>Nat.lt_of_lt_of_le hb k4.next)
   have hL3:=m4.le.l _ _ Il
   have last:∀ (st:Fs) (Aw:Option Code) (vb:AV),((pE J2 b st).bind fun J=>some (vb,J))=some (v,J')->vb=.b Aw.isNone->(∀ r:Loop,IC st {r with state:=if Aw.isNone then .ready else .done,pending:=Aw})->
     ∃ u w',(Instr.endRound L.B Aw).run P w3=.ok u w'/\∃ aQ fp' u',Ending.returned u=.returned u'/\aK aQ v u'/\aS RO P (· < J.next) ρ fp J w aQ fp' J' w':=by
    intro st Aw vb hv hvb jD
    obtain ⟨J4,hm4,hv⟩:=Option.bind_eq_some_iff.1 hv
    simp only [Option.some.injEq,Prod.mk.injEq] at hv
    obtain ⟨rfl,rfl⟩:=hv
    obtain ⟨s3,agc,st3,mz,rfl⟩:=CC hm4
    obtain ⟨r3,x3,q1,q2,q3,q4,q5,q6,q7,q8⟩:=m4.rel.aa _ _ _ mz hL3
    have hh3:w3.heap[L.B]? = some (.loop r3):=m4.rel.has _ _ _ (by rw [q1];exact bO _ _)
    obtain ⟨Wo,p4⟩:=aS.ym (S:=(· < J.next)) m4.rel mz hL3 q1 (x1:=.loop s3 agc st) (ob':=.loop {r3 with state:=if Aw.isNone then .ready else .done,pending:=Aw}) (fun w'=>⟨_,x3,rfl,q2,q3,q4,q5,jD r3,q7,q8⟩)
    exact ⟨_,_,run_endRound Aw hh3,ρ3,Wo,_,rfl,by rw [hvb];exact .b _,T.trans p4⟩
   cases x2 with
   |norm=>exact last .ready none _ b1 rfl (fun _=>⟨rfl,rfl⟩)
   |ret=>exact last (.done none) (some .ret) _ b1 rfl (fun _=>⟨rfl,rfl⟩)
   |exit id=>exact last (.done (some id)) (some (.exit id)) _ b1 rfl (fun _=>⟨rfl,rfl⟩)
 ·cases h
theorem noY:gr RO P (fun _ _=>none:Sm O):=fun _ _ _ _ _ _ h=>by cases h
theorem vP (hG:cS RO P G) (hm:P.follows .mixedOrders=true) {f:FuncId} {fn:Func} (hf:P.funcs[f]? = some fn) (i:Nat) (Hl FD:List (Nat × Ty)) (an:og):gr RO P (x9 P G f fn i Hl FD an):=by
 unfold x9
 split
 ·exact noY
 ·rename_i c hb
  split
  ·exact noY
  ·rename_i x hx
   obtain ⟨ps,DX,body⟩:=x
   cases hc:plain DX && plain body && Nat.blt i 1000 && (FD.map (·.1) == ps.toList) && distinct (Hl.map (·.1)++FD.map (·.1)) with
   |false=>exact noY
   |true=>
    simp only [Bool.and_eq_true] at hc
    obtain ⟨⟨⟨⟨h1,h2⟩,h3⟩,h4⟩,h5⟩:=hc
    have hk:i<1000:=Nat.le_of_ble_eq_true h3
    have e1:(f*1000+i) / 1000=f:=by rw [Nat.mul_comm,Nat.mul_add_div (by decide),Nat.div_eq_of_lt hk];rfl
    have e2:(f*1000+i) % 1000=i:=by rw [Nat.mul_comm,Nat.mul_add_mod,Nat.mod_eq_of_lt hk]
    refine yy hG hm (ps:=ps) (by unfold gW;rw [e1,e2,hf];simp [hb,hx]) (by simp [h1,h2]) (by simpa using h4) h5 an
theorem gr.or {a b:Sm O} (ha:gr RO P a) (hb:gr RO P b):gr RO P (orR a b):=by
 intro k o ys J v J' h
 unfold orR at h
 split at h
 ·rename_i r hr;cases h;exact ha k o ys J v J' hr
 ·exact hb k o ys J v J' h
end Go.Abs
