/-
  AbsRun: a function does what 'run' says.
-/
import Derived.Test.YtlgnboohmahbaaaGreatDoorAbsExec
set_option linter.unusedVariables false
set_option linter.unusedSimpArgs false
set_option linter.constructorNameAsVariable false
namespace Go.Abs
open Go
variable {O:Type} {RO:O → Loc → (Nat → Option Obj) → Prop} {P:Program} {G:List (Nat × Sm O)} {n:Nat}
theorem LV:∀ {R:Type} (tys:List Ty) (i:Nat) (xs:List AV) (e:Env) (K:Env → Option R) (r:R),Xe tys i xs e K=some r →
  ∃ e',K e'=some r ∧ ∀ t,e' t=e t ∨ (t<i+tys.length ∧ e' t=xs.getD t .u)
 |_,[],i,xs,e,K,r,h=>⟨e,h,fun _=>.inl rfl⟩
 |_,ty::tys,i,xs,e,K,r,h=>by
  simp only [Xe] at h
  have h:=wD h
  obtain ⟨e',h1,h2⟩:=LV tys (i+1) xs _ K r h
  refine ⟨e',h1,fun t=>?_⟩
  rcases h2 t with q |⟨q1,q2⟩
  ·rw [Env.tN] at q
   by_cases ht:t=i
   ·subst ht;rw [if_pos rfl] at q;exact .inr ⟨by simp,q⟩
   ·rw [if_neg ht] at q;exact .inl q
  ·exact .inr ⟨by simp;omega,q2⟩
def LX (tmps:Array Value) (x:ResultVar):Sem Value:=
 match x with
 |.tmp t=>pure (tmps.getD t undef)
 |.cell q t=>do loadVar t (← asAddr (tmps.getD q undef))
theorem Iv {ρ:cl} {fp:Fp} {σ:AH O} {w:World} {e:Env} {a:Act} (he:aH n ρ e a) (aC:Rel RO P ρ fp σ w):∀ (rs:List ResultVar) (K:List AV → Option (AV × AH O)) (r:AV × AH O),VO P e σ rs K=some r →
  ∃ vs us,K vs=some r ∧ aL ρ vs us ∧ (rs.mapM (LX a.tmps)).run P w=.ok us w
 |[],K,r,h=>⟨[],[],h,.nil,by simp⟩
 |.tmp t::rs,K,r,h=>by
  simp only [VO] at h
  obtain ⟨vs,us,h1,h2,h3⟩:=Iv he aC rs _ r h
  exact ⟨e t::vs,a.tmps.getD t undef::us,h1,.cons _ _ _ _ (he.get t) h2,by simp [List.mapM_cons,h3,LX]⟩
 |.cell q t::rs,K,r,h=>by
  simp only [VO] at h
  have hq:=he.get q
  obtain ⟨b,o,hb,h⟩:=nS h
  rw [hb] at hq
  obtain ⟨L,hL,uq⟩:=hq.Eu
  obtain ⟨DE,h⟩:=aD h
  obtain ⟨v,u,hk,hr,_,fy,_⟩:=JD aC hL DE h
  obtain ⟨vs,us,h1,h2,h3⟩:=Iv he aC rs _ r hk
  refine ⟨v::vs,u::us,h1,.cons _ _ _ _ hr h2,?_⟩
  simp only [List.mapM_cons,Sem.run_bind,LX,uq,asAddr,Sem.run_pure,Result.andThen_ok,fy,h3]
def aib (f:Func):Bool:=
 match f.body with
 |some c=>rK f.ntmps c && Nat.ble (f.params.size+f.nfree) f.ntmps && plain c
 |none=>false
def ag8 (f:Func):Bool:=
 match f.body with
 |some c=>rK f.ntmps c && Nat.ble (f.params.size+f.nfree) f.ntmps && Nat.blt (jh c).length 1000
 |none=>false
def aic:Nat → List (Array Tmp × Code × Code) → List (Nat × (Array Tmp × Code × Code))
 |_,[]=>[]
 |s,x::xs=>(s,x)::aic (s+1) xs
theorem PC:∀ (xs:List (Array Tmp × Code × Code)) (s:Nat) (p:Nat × (Array Tmp × Code × Code)),p∈aic s xs → ∃ k,k<xs.length ∧ p.1=s+k ∧ xs[k]? = some p.2
 |[],_,_,h=>by cases h
 |x::xs,s,p,h=>by
  rcases List.mem_cons.1 h with e |h
  ·subst e;exact ⟨0,by simp,rfl,rfl⟩
  ·obtain ⟨k,h1,h2,h3⟩:=PC xs (s+1) p h
   exact ⟨k+1,by simp;omega,by rw [h2];omega,by simpa using h3⟩
theorem cg:∀ (c:Code) (an:Di),plain c=true → bH c an=[]
 |.skip,_,_=>rfl
 |.label _,_,_=>rfl
 |.exit _,_,_=>rfl
 |.ret,_,_=>rfl
 |.region _ _ _,_,_=>rfl
 |.goto _,_,_=>rfl
 |.refuse _,_,_=>rfl
 |.seq a b,an,h=>by
  simp only [plain,Bool.and_eq_true] at h
  simp only [bH,cg a an.l h.1,cg b an.r h.2,List.append_nil]
 |.cond _ a b,an,h=>by
  simp only [plain,Bool.and_eq_true] at h
  simp only [bH,cg a an.l h.1,cg b an.r h.2,List.append_nil]
 |.block _ c,an,h=>by
  simp only [plain] at h
  simp only [bH,cg c an.l h]
 |.loop c,an,h=>by
  simp only [plain] at h
  unfold bH
  split
  ·exact cg c _ h
  ·exact cg c _ h
  ·rfl
 |.scope c,an,h=>by
  simp only [plain] at h
  simp only [bH,cg c an.l h]
 |.rangeFunc _ _ _ _,_,h=>by simp [plain] at h
theorem Rel.mark {ρ:cl} {fp:Fp} {σ:AH O} {w:World} (h:Rel RO P ρ fp σ w) {r:Nat} {ob:Obj} (h1:w.heap[r]? = some (.deferred (some []))) (h2:∀ b,fp b r=none):Rel RO P ρ fp σ (w.putObj r ob) where
 next:=h.next
 ai:=fun b x L hx hL=>(h.ai b x L hx hL).mono (cl.le_refl _)
 dead:=h.dead
 has:=fun b B o hb=>by
  rw [World.putObj_heap_other fun e=>by rw [e,h2 b] at hb;cases hb];exact h.has b B o hb
 nT:=h.nT
 fz:=fun B o u hu=>by
  obtain ⟨g1,g2⟩:=h.fz B o u hu
  refine ⟨?_,g2⟩
  rw [World.cell?_of_block (w:=w) (World.putObj_heap_other fun e=>?_)]
  ·exact g1
  ·subst e;simp [World.cell?,h1] at g1
theorem GF {fn:Func} {tmps:Array Value} {R:Ending → World → Prop} {B0:Nat} {fp0:Fp} {w0:World} {ρ:cl} {fp:Fp} {σ:AH O}
  (hB:w0.heap.size ≤ B0) (fin:∀ w',Rel RO P ρ fp σ w' → Fr fp0 w0 w' → ∃ v,(results fn tmps).run P w'=.ok v w' ∧ R (.returned v) w'):
  ∀ (ds:List Deferred) (w:World),Marks B0 fp w ds → Rel RO P ρ fp σ w → Fr fp0 w0 w → LeavesInM (Fw none) 0 P fn tmps R ds .returning w
 |[],w,_,hr,hf=>fin w hr hf
 |d::ds,w,hm,hr,hf=>by
  obtain ⟨r,h1,h2,h3,h4⟩:=hm.it d (List.mem_cons_self ..)
  have bS:=(Array.getElem?_eq_some_iff.1 h3).1
  refine ⟨by simp,.inl ⟨r,w.putObj r (.deferred none),h1,run_takeDeferred h3,?_⟩⟩
  have hnd:=hm.nd
  simp only [List.map_cons,List.nodup_cons] at hnd
  refine GF hB fin ds _ ⟨by simpa using hm.sz,hnd.2,fun d' xZ=>?_⟩ (Rel.mark hr h3 h4) ⟨hf.os,hf.tape,hf.output,by simpa using hf.size,fun B hB' hn=>?_⟩
  ·obtain ⟨r',k1,k2,k3,k4⟩:=hm.it d' (List.mem_cons_of_mem _ xZ)
   refine ⟨r',k1,k2,?_,k4⟩
   rw [World.putObj_heap_other fun e=>hnd.1 (List.mem_map.2 ⟨d',xZ,by rw [k1,h1,e]⟩)]
   exact k3
  ·rw [World.putObj_heap_other fun e=>by omega]
   exact hf.Kk B hB' hn
theorem LY (hG:dJ RO P G) (hm:P.follows .mixedOrders=true) {f:FuncId} {fn:Func} {c:Code} (hf:P.funcs[f]? = some fn) (hb:fn.body=some c) (hd:rK fn.ntmps c=true) (hp:fn.params.size+fn.nfree ≤ fn.ntmps) (an:Di)
  (hs:∀ p,p∈bH c an → pN P p.1=some p.2):ae RO P f (run P G fn an):=by
 intro xs σ v aj h ρ fp w args hargs aC
 unfold run at h
 simp only [hb] at h
 obtain ⟨hlen,h⟩:=aD h
 have hlen:=Nat.eq_of_beq_eq_true hlen
 have tM:=hargs.length
 simp only [Array.length_toList] at tM
 refine Fb.1 (callsIn_of_wp_marks (F:=Fw none) (n:=0) hf hb trivial ?_)
 obtain ⟨e',h1,h2⟩:=LV _ _ _ _ _ _ h
 obtain ⟨x,e1,aJ,g1,g2⟩:=ej (n:=fn.ntmps) (ro:=none) hG hm c hd (.inl rfl) an hs e' σ _ _ h1
 have he:aH fn.ntmps ρ e' {tmps:=args++Array.replicate (fn.ntmps - args.size) undef,defers:=[]}:=by
  refine ⟨by simp;omega,fun t=>?_⟩
  rcases h2 t with q |⟨q1,q2⟩
  ·rw [q];exact .u _
  ·simp only [List.length_append,List.length_replicate,List.length_map,Array.length_toList,Nat.zero_add] at q1
   rw [q2]
   have ht:t<xs.length:=by omega
   obtain ⟨u,hu,hr⟩:=hargs.get (List.getElem?_eq_getElem ht)
   have VC:args[t]? = some u:=by simpa using hu
   have ht2:t<args.size:=by omega
   have e1:xs.getD t .u=xs[t]:=by simp [List.getD,ht]
   have e2:(args++Array.replicate (fn.ntmps - args.size) undef).getD t undef=u:=by
    simp only [Array.getD_eq_getD_getElem?,Array.getElem?_append_left ht2,VC,Option.getD_some]
   rw [e1];show aI ρ _ ((args++Array.replicate (fn.ntmps - args.size) undef).getD t undef)
   rw [e2];exact hr
 refine g2 ρ fp _ w he aC _ fun a' w' aR fp' k1 k2 k3 k4=>?_
 have Xm:=k2 w.heap.size ⟨Nat.le_refl _,by simp,fun d xZ=>by cases xZ⟩
 have fin:VO P e1 aJ fn.results.toList (fun vs=>some (SR vs,aJ))=some (v,aj) → ∀ R:Ending → World → Prop,(R=fun x w'=>∃ aR fp' u,x=.returned u ∧ aI aR v u ∧ aO RO P (· < σ.next) ρ fp σ w aR fp' aj w') → LeavesInM (Fw none) 0 P fn a'.tmps R a'.defers .returning w':=by
  intro adt R hR
  have V5:∀ Oi,Rel RO P aR fp' aJ Oi → Fr fp w Oi → ∃ u,(results fn a'.tmps).run P Oi=.ok u Oi ∧ R (.returned u) Oi:=by
   intro Oi alc apT
   obtain ⟨vs,us,q1,q2,q3⟩:=Iv k1 alc _ _ _ adt
   simp only [Option.some.injEq,Prod.mk.injEq] at q1
   obtain ⟨rfl,rfl⟩:=q1
   have hl:=q2.length
   have k4':aO RO P (· < σ.next) ρ fp σ w aR fp' aJ Oi:=⟨alc,apT,k4.grow,k4.gro,k4.le,k4.ext,k4.blank,k4.next⟩
   subst hR
   refine ⟨if h:us.toArray.size=1 then us.toArray[0] else .tuple us.toArray,?_,aR,fp',_,rfl,?_,k4'⟩
   ·have q4:(fn.results.mapM (LX a'.tmps)).run P Oi=.ok us.toArray Oi:=by
     rw [Array.mapM_eq_mapM_toList,Sem.run_map,q3];rfl
    show ((fn.results.mapM (LX a'.tmps)) >>= fun vs=>(pure (if h:vs.size=1 then vs[0] else .tuple vs):Sem Value)).run P Oi=_
    rw [Sem.run_bind,q4];rfl
   ·match vs,us,q2,hl with
    |[],[],q2,_=>exact .aS _ _ q2
    |[v1],[u1],q2,_=>
     cases q2 with
     |cons _ _ _ _ a1 a2=>exact a1
    |v1::v2::vs,u1::u2::us,q2,_=>
     rw [dif_neg (by simp)]
     exact .aS _ _ q2
  exact GF (B0:=w.heap.size) (fp0:=fp) (w0:=w) (Nat.le_refl _) V5 a'.defers w' Xm k4.rel k4.fr
 cases x with
 |norm=>exact fin g1 _ rfl
 |ret=>exact fin g1 _ rfl
 |exit id=>cases g1
theorem aU (hG:dJ RO P G) (hm:P.follows .mixedOrders=true) {f:FuncId} {fn:Func} (hf:P.funcs[f]? = some fn) (H7:aib fn=true) (an:Di):ae RO P f (run P G fn an):=by
 unfold aib at H7
 cases hb:fn.body with
 |none=>rw [hb] at H7;cases H7
 |some c=>
  rw [hb] at H7
  simp only [Bool.and_eq_true] at H7
  exact LY hG hm hf hb H7.1.1 (Nat.le_of_ble_eq_true H7.1.2) an (fun p hp=>by rw [cg c an H7.2] at hp;cases hp)
theorem Wf (hG:dJ RO P G) (hm:P.follows .mixedOrders=true) {f:FuncId} {fn:Func} (hf:P.funcs[f]? = some fn) (H7:ag8 fn=true) (an:Di) (hs:(match fn.body with |some c=>bH c an |none=>[])=aic (f*1000) (match fn.body with |some c=>jh c |none=>[])):ae RO P f (run P G fn an):=by
 unfold ag8 at H7
 cases hb:fn.body with
 |none=>rw [hb] at H7;cases H7
 |some c=>
  rw [hb] at H7
  simp only [hb] at hs
  simp only [Bool.and_eq_true] at H7
  refine LY hG hm hf hb H7.1.1 (Nat.le_of_ble_eq_true H7.1.2) an (fun p hp=>?_)
  rw [hs] at hp
  obtain ⟨k,h1,h2,h3⟩:=PC _ _ _ hp
  have hk:k<1000:=Nat.lt_trans h1 (Nat.le_of_ble_eq_true H7.2)
  have e1:(f*1000+k) / 1000=f:=by rw [Nat.mul_comm,Nat.mul_add_div (by decide),Nat.div_eq_of_lt hk];rfl
  have e2:(f*1000+k) % 1000=k:=by rw [Nat.mul_comm,Nat.mul_add_mod,Nat.mod_eq_of_lt hk]
  unfold pN
  rw [h2,e1,e2,hf]
  simp [hb,h3]
theorem aA:dJ RO P []:=fun _ _ h=>by cases h
theorem af {f:FuncId} {s:Sm O} (h1:aa P f) (h2:ae RO P f s) (h:dJ RO P G) (hf:f<wo:=by decide):dJ RO P ((f,s)::G):=fun g t hm=>by
 rcases List.mem_cons.1 hm with e |hm
 ·cases e;exact .inl ⟨hf,h1,h2⟩
 ·exact h g t hm
theorem aid {f:FuncId} {s:Sm O} (h1:rM P f s) (h:dJ RO P G) (hf:f<wo:=by decide):dJ RO P ((f,s)::G):=fun g t hm=>by
 rcases List.mem_cons.1 hm with e |hm
 ·cases e;exact .inr (.inl ⟨hf,h1⟩)
 ·exact h g t hm
theorem apU {s:Sm O} (h1:nV RO P s) (h:dJ RO P G):dJ RO P ((wo,s)::G):=fun g t hm=>by
 rcases List.mem_cons.1 hm with e |hm
 ·cases e;exact .inr (.inr (.inl ⟨rfl,h1⟩))
 ·exact h g t hm
theorem grf {c:FuncId} {s:Sm O} (h1:aa P c) (h2:ae RO P c s) (h:dJ RO P G):dJ RO P ((c+Kl,s)::G):=fun g t hm=>by
 rcases List.mem_cons.1 hm with e |hm
 ·cases e;exact .inr (.inr (.inr ⟨c,rfl,h1,h2⟩))
 ·exact h g t hm
theorem Ex:∀ {l:List Nat},distinct l=true → l.Nodup
 |[],_=>List.nodup_nil
 |t::ts,h=>by
  simp only [distinct,Bool.and_eq_true,Bool.not_eq_true'] at h
  exact List.nodup_cons.2 ⟨fun hm=>(by rw [List.elem_eq_true_of_mem hm] at h;cases h.1),Ex h.2⟩
theorem yo {t:Nat}:∀ (ts:List Nat) (us:List Value) (tmps:Array Value),t∉ts → ((ts.zip us).foldl (fun tmps (t,a)=>tmps.setIfInBounds t a) tmps).getD t undef=tmps.getD t undef
 |[],_,_,_=>by simp
 |_::_,[],_,_=>by simp
 |q::ts,u::us,tmps,h=>by
  simp only [List.zip_cons_cons,List.foldl_cons]
  rw [yo ts us _ fun hm=>h (List.mem_cons_of_mem _ hm)]
  have:q≠t:=fun e=>h (by simp [e])
  simp [Array.getD_eq_getD_getElem?,Array.getElem?_setIfInBounds_ne this]
theorem BN:∀ (ts:List Nat) (us:List Value) (tmps:Array Value),((ts.zip us).foldl (fun tmps (t,a)=>tmps.setIfInBounds t a) tmps).size=tmps.size
 |[],_,_=>by simp
 |_::_,[],_=>by simp
 |q::ts,u::us,tmps=>by
  simp only [List.zip_cons_cons,List.foldl_cons]
  rw [BN ts us];simp
theorem GG {n:Nat}:∀ (ts:List Nat) (us:List Value) (tmps:Array Value),tmps.size=n → (∀ t∈ts,t<n) → ts.Nodup → ∀ (j t:Nat) (u:Value),ts[j]? = some t → us[j]? = some u → ((ts.zip us).foldl (fun tmps (t,a)=>tmps.setIfInBounds t a) tmps).getD t undef=u
 |[],_,_,_,_,_,j,t,u,h,_=>by simp at h
 |_::_,[],_,_,_,_,j,t,u,_,h=>by simp at h
 |q::ts,v::us,tmps,hn,hb,hd,j,t,u,h1,h2=>by
  simp only [List.zip_cons_cons,List.foldl_cons]
  have hd:=List.nodup_cons.1 hd
  cases j with
  |zero=>
   simp only [List.getElem?_cons_zero,Option.some.injEq] at h1 h2
   subst h1;subst h2
   rw [yo ts us _ hd.1]
   have:q<tmps.size:=by rw [hn];exact hb q (List.mem_cons_self ..)
   simp [Array.getD_eq_getD_getElem?,this]
  |succ j=>
   exact GG ts us _ (by simpa using hn) (fun t ht=>hb t (List.mem_cons_of_mem _ ht)) hd.2 j t u (by simpa using h1) (by simpa using h2)
theorem LZ {ρ:cl} {tmps:Array Value}:∀ (l:List (Nat × AV)),(∀ t v,(t,v)∈l → aI ρ v (tmps.getD t undef)) → ∀ t,aI ρ (Pd l t) (tmps.getD t undef)
 |[],_,t=>.u _
 |(q,v)::l,h,t=>by
  simp only [Pd]
  cases hq:Nat.beq t q with
  |true=>rw [cond_true,Nat.eq_of_beq_eq_true hq];exact h q v (List.mem_cons_self ..)
  |false=>rw [cond_false];exact LZ l (fun t v hm=>h t v (List.mem_cons_of_mem _ hm)) t
theorem Wg {σ aj:AH O} {b:Nat} {st:ZZ} (h:Pc σ b st=some aj):∃ s env st0,σ.ai b=some (.loop s env st0) ∧ aj=σ.put b (.loop s env st):=by
 unfold Pc at h
 split at h
 ·rename_i s e st0 hb;cases h;exact ⟨s,e,st0,hb,rfl⟩
 ·cases h
theorem Wh {σ aj:AH O} {b:Nat} (h:Xc σ b=some aj):∃ s env,σ.ai b=some (.loop s env .ready) ∧ aj=σ.put b (.loop s env .busy):=by
 unfold Xc at h
 split at h
 ·rename_i s e hb;cases h;exact ⟨s,e,hb,rfl⟩
 ·cases h
theorem QW (hG:dJ RO P G) (hm:P.follows .mixedOrders=true) {site:Nat} {ps:Array Tmp} {Xd body:Code} (hs:pN P site=some (ps,Xd,body)) (Dk:(plain Xd && plain body)=true) {Z1 Yj:List (Nat × Ty)} (hpt:Yj.map (·.1)=ps.toList) (hdi:distinct (Z1.map (·.1)++Yj.map (·.1))=true) (an:Di):nV RO P (VN P G site ps.toList Xd body Z1 Yj an):=by
 intro b o ys σ v aj h ρ fp w args L hL hargs aC
 simp only [Bool.and_eq_true] at Dk
 simp only [VN,VM] at h
 split at h
 ·rename_i s env Kn
  obtain ⟨hc,h'⟩:=aD h
  clear h
  simp only [Bool.and_eq_true] at hc
  have hsi:=Nat.eq_of_beq_eq_true hc.1
  have hyl:=Nat.eq_of_beq_eq_true hc.2
  subst hsi
  have tM:=hargs.length
  simp only [Array.length_toList] at tM hyl
  obtain ⟨r,x,g1,g2,g3,g4,g5,g6,g7,g8⟩:=aC.ai _ _ _ Kn hL
  rw [hs] at g2
  cases g2
  simp only at g3 g4 g5 g7
  have Xi:w.heap[L.B]? = some (.loop r):=aC.has _ _ _ (by rw [g1];exact bp _ _)
  refine ⟨r,Xi,by rw [g3,← tM,hyl],roundIn_of_wpIn trivial ?_⟩
  have e0:(r.params.zip args).foldl (fun tmps (t,a)=>tmps.setIfInBounds t a) r.tmps=(ps.toList.zip args.toList).foldl (fun tmps (t,a)=>tmps.setIfInBounds t a) r.tmps:=by
   rw [g3,← Array.foldl_toList];simp
  obtain ⟨ea,h',ka⟩:=lO _ _ _ _ _ _ h'
  obtain ⟨eb,h',kb⟩:=lO _ _ _ _ _ _ h'
  obtain ⟨x1,e1,aJ,h1,h2⟩:=ej (n:=r.tmps.size) (ro:=some L.B) hG hm Xd (List.all_eq_true.2 fun t ht=>Nat.ble_eq_true_of_le (g7 t (by simp [ht]))) (.inr Dk.1) an.l (fun p hp=>by rw [cg _ _ Dk.1] at hp;cases hp) _ _ _ _ h'
  have hnd:=List.nodup_append.1 (Ex hdi)
  have hps:∀ t∈ps.toList,t<r.tmps.size:=fun t ht=>g7 t (by simp at ht;simp [ht])
  have he:aH r.tmps.size ρ eb {tmps:=(r.params.zip args).foldl (fun tmps (t,a)=>tmps.setIfInBounds t a) r.tmps,defers:=[]}:=by
   rw [e0]
   refine ⟨BN _ _ _,fun t=>?_⟩
   show aI ρ _ (((ps.toList.zip args.toList).foldl (fun tmps (t,a)=>tmps.setIfInBounds t a) r.tmps).getD t undef)
   rcases kb t with q |⟨j,ty,q1,q2⟩
   ·rw [q]
    rcases ka t with q |⟨j,ty,q1,q2⟩
    ·rw [q];exact .u _
    ·rw [q2,Nat.zero_add,yo _ _ _ (fun hm=>by
      rw [← hpt] at hm
      exact hnd.2.2 t (List.mem_map.2 ⟨(t,ty),List.mem_of_getElem? q1,rfl⟩) t hm rfl)]
     have:(Z1.map fun p=>Pd env p.1).getD j .u=Pd env t:=by simp [List.getD,List.getElem?_map,q1]
     rw [this]
     exact LZ env g8 t
   ·rw [q2,Nat.zero_add]
    have e1:ps.toList[j]? = some t:=by rw [← hpt,List.getElem?_map,q1];rfl
    have hj:j<ys.length:=by rw [hyl];exact (List.getElem?_eq_some_iff.1 e1).1
    obtain ⟨u,hu,hr⟩:=hargs.get (List.getElem?_eq_getElem hj)
    rw [GG ps.toList args.toList r.tmps rfl hps (hpt▸hnd.2.1) j t u e1 hu]
    have:ys.getD j .u=ys[j]:=by simp [List.getD,hj]
    rw [this];exact hr
  rw [g4,g5]
  refine h2 ρ fp _ w he aC _ fun a1 w1 ρ1 Oa k1 _ _ k4=>?_
  cases x1 with
  |ret=>cases h1
  |exit id=>cases h1
  |norm=>
   simp only at h1
   obtain ⟨aP,hm2,h1⟩:=Option.bind_eq_some_iff.1 h1
   obtain ⟨s1,apX,hb1,rfl⟩:=Wh hm2
   have YF:=k4.le.l _ _ hL
   obtain ⟨r1,x1,f1,f2,f3,f4,f5,f6,f7,f8⟩:=k4.rel.ai _ _ _ hb1 YF
   have hh1:w1.heap[L.B]? = some (.loop r1):=k4.rel.has _ _ _ (by rw [f1];exact bp _ _)
   refine ⟨_,run_beginRound hh1 f6.1,?_⟩
   obtain ⟨SC,p2⟩:=aO.S6 (S:=(· < σ.next)) k4.rel hb1 YF f1 (x1:=.loop s1 apX .busy) (ob':=.loop {r1 with state:=.busy}) (fun w'=>⟨{r1 with state:=.busy},x1,rfl,f2,f3,f4,f5,rfl,f7,f8⟩)
   obtain ⟨x2,e2,aP,b1,b2⟩:=ej (n:=r.tmps.size) (ro:=some L.B) hG hm body (List.all_eq_true.2 fun t ht=>Nat.ble_eq_true_of_le (g7 t (by simp [ht]))) (.inr Dk.2) an.r (fun p hp=>by rw [cg _ _ Dk.2] at hp;cases hp) _ _ _ _ h1
   refine b2 ρ1 SC a1 _ k1 p2.rel _ fun a3 w3 ρ3 Vd _ _ _ m4=>?_
   have T:=(k4.trans p2).trans (m4.mono fun b (hb:b<σ.next)=>Nat.lt_of_lt_of_le hb k4.next)
   have hL3:=m4.le.l _ _ YF
   have last:∀ (st:ZZ) (jump:Option Code) (vb:AV),((Pc aP b st).bind fun σ=>some (vb,σ))=some (v,aj) → vb=.b jump.isNone → (∀ r:Loop,aaT st {r with state:=if jump.isNone then .ready else .done,pending:=jump}) →
     ∃ u w',(Instr.endRound L.B jump).run P w3=.ok u w' ∧ ∃ aR fp' u',Ending.returned u=.returned u' ∧ aI aR v u' ∧ aO RO P (· < σ.next) ρ fp σ w aR fp' aj w':=by
    intro st jump vb hv hvb lP
    obtain ⟨ky,hm4,hv⟩:=Option.bind_eq_some_iff.1 hv
    simp only [Option.some.injEq,Prod.mk.injEq] at hv
    obtain ⟨rfl,rfl⟩:=hv
    obtain ⟨s3,apY,st3,hb3,rfl⟩:=Wg hm4
    obtain ⟨r3,x3,q1,q2,q3,q4,q5,q6,q7,q8⟩:=m4.rel.ai _ _ _ hb3 hL3
    have hh3:w3.heap[L.B]? = some (.loop r3):=m4.rel.has _ _ _ (by rw [q1];exact bp _ _)
    obtain ⟨fp4,p4⟩:=aO.S6 (S:=(· < σ.next)) m4.rel hb3 hL3 q1 (x1:=.loop s3 apY st) (ob':=.loop {r3 with state:=if jump.isNone then .ready else .done,pending:=jump}) (fun w'=>⟨_,x3,rfl,q2,q3,q4,q5,lP r3,q7,q8⟩)
    exact ⟨_,_,run_endRound jump hh3,ρ3,fp4,_,rfl,by rw [hvb];exact .b _,T.trans p4⟩
   cases x2 with
   |norm=>exact last .ready none _ b1 rfl (fun _=>⟨rfl,rfl⟩)
   |ret=>exact last (.done none) (some .ret) _ b1 rfl (fun _=>⟨rfl,rfl⟩)
   |exit id=>exact last (.done (some id)) (some (.exit id)) _ b1 rfl (fun _=>⟨rfl,rfl⟩)
 ·cases h
theorem noY:nV RO P (fun _ _=>none:Sm O):=fun _ _ _ _ _ _ h=>by cases h
theorem Oq (hG:dJ RO P G) (hm:P.follows .mixedOrders=true) {f:FuncId} {fn:Func} (hf:P.funcs[f]? = some fn) (i:Nat) (Z1 Yj:List (Nat × Ty)) (an:Di):nV RO P (QA P G f fn i Z1 Yj an):=by
 unfold QA
 split
 ·exact noY
 ·rename_i c hb
  split
  ·exact noY
  ·rename_i x hx
   obtain ⟨ps,Xd,body⟩:=x
   cases hc:plain Xd && plain body && Nat.blt i 1000 && (Yj.map (·.1) == ps.toList) && distinct (Z1.map (·.1)++Yj.map (·.1)) with
   |false=>exact noY
   |true=>
    simp only [Bool.and_eq_true] at hc
    obtain ⟨⟨⟨⟨h1,h2⟩,h3⟩,h4⟩,h5⟩:=hc
    have hk:i<1000:=Nat.le_of_ble_eq_true h3
    have e1:(f*1000+i) / 1000=f:=by rw [Nat.mul_comm,Nat.mul_add_div (by decide),Nat.div_eq_of_lt hk];rfl
    have e2:(f*1000+i) % 1000=i:=by rw [Nat.mul_comm,Nat.mul_add_mod,Nat.mod_eq_of_lt hk]
    refine QW hG hm (ps:=ps) (by unfold pN;rw [e1,e2,hf];simp [hb,hx]) (by simp [h1,h2]) (by simpa using h4) h5 an
theorem nV.or {a b:Sm O} (ha:nV RO P a) (hb:nV RO P b):nV RO P (orR a b):=by
 intro k o ys σ v aj h
 unfold orR at h
 split at h
 ·rename_i r hr;cases h;exact ha k o ys σ v aj hr
 ·exact hb k o ys σ v aj h
end Go.Abs
