/-
  AbsHeap2: copy, clear, bytes as a string, calls; and all operations together.
-/
import Derived.Test.YtncohicmiihjiaaGreatAbsMap
import Derived.Laws.BytesString
import Derived.Laws.BytesArg
set_option linter.unusedVariables false
set_option linter.unusedSimpArgs false
set_option linter.constructorNameAsVariable false
namespace Go.Abs
open Go
variable {O:Type} {RO:O->Loc->(Nat->Option Obj)->Prop} {P:Program} {ρ:bX} {fp:Fp} {J:AH O} {w:World} {n:Nat} {e:Env} {a:Act} {R:Type}
variable {G:List (Nat × Sm O)} {ty:TypeId} {nid:Nat} {K:AV->AH O->Option R} {r:R}
theorem Cn {c:Call} (dU:c.callee=.builtin .copy) (h:dX P G (.call c) ty e J nid K=some r) (he:aJ n ρ e a) (aC:Rel RO P ρ fp J w):Goal RO P (.call c) ty a nid ρ fp J w K r:=by
 simp only [dX,dU] at h
 split at h
 ·rename_i sa k Uy m t t' hv ht
  obtain ⟨u1,u2,ha,r1,r2⟩:=ue (j8 he c.args) hv
  have MP:c.argTypes = #[t,t']:=by apply Array.ext';rw [ht]
  split at h
  ·rename_i el hu
   obtain ⟨inf,iJ,hA⟩:=dC h
   clear h hv
   have fT:∀ {u:Value} {w':World},(Builtin.copy_ #[t,t'] ty #[u1,u2]).run P w=.ok u w'->∀ o:Oper,o.op=.call c->o.type=ty->(execOp a.eval o).run P w=.ok (.value u) w':=by
    intro u w' hr o ho nP
    subst nP
    simp only [execOp,ho,resolve,dU,Sem.run_bind,Sem.run_pure,Result.andThen_ok,invoke,builtin,MP,ha,hr]
   obtain ⟨A1,Wz,e1,vI,_⟩:=r1.qT
   obtain ⟨A2,afR,e2,Hp,_⟩:=r2.qT
   cases hk:Nat.beq (min m k) 0 with
   |true=>
    rw [hk] at hA
    have hk:=Nat.eq_of_beq_eq_true hk
    refine ⟨_,_,hA,ej.value (fT (u:=.int .i64 0) (w':=w) ?_) (.i _ _) (aS.refl aC)⟩
    have qF:Nat.min m k=0:=hk
    rw [e1,e2]
    cases A1<;>cases A2<;>simp [Builtin.copy_,run_underlying hu,Builtin.lenOf,qF,sizeOf,typeInfo,iJ,Builtin.firstCells,loadCells,loadCellsFrom,storeCells,goInt]
   |false=>
    simp only [hk,cond_false] at hA
    obtain ⟨cs,ya,hA⟩:=Option.bind_eq_some_iff.1 hA
    obtain ⟨J',jD,h⟩:=Option.bind_eq_some_iff.1 hA
    have Uz:min m k≠0:=fun e=>by rw [e] at hk;cases hk
    unfold AH.bT at ya
    unfold AH.zU at jD
    clear e1 e2
    generalize wO:u1=uu1 at r1
    generalize UA:u2=uu2 at r2
    cases r1 with
    |B1=>cases jD
    |zD=>cases jD
    |Bz=>simp at Uz
    |sl _ _ _ c1 L1 Il p1 p2 p3=>
     cases r2 with
     |B1=>simp at Uz
     |zD=>simp at Uz
     |Bz=>simp at Uz
     |sl _ _ _ c2 L2 Us q1 q2 q3=>
      obtain ⟨us,k1,k2,k3,k4⟩:=mX aC Us ya
      obtain ⟨fp',w',jM,hp⟩:=ud (S:=fun b=>b<J.next/\(aM (.call c)=true->b≠nid)) aC Il jD k1 k2
      have vH:=run_loadCells_list (P:=P) w _ us (fun j u hj=>by rw [j7];exact k4 j u hj)
      refine ⟨_,_,h,ej.value (fT (u:=.int .i64 (min m k:Nat)) (w':=w') ?_) (.i _ _) hp⟩
      rw [wO,UA]
      have afS:Nat.min m k=min m k:=rfl
      rw [k3] at vH
      simp [Builtin.copy_,run_underlying hu,Builtin.lenOf,sizeOf,typeInfo,iJ,Builtin.firstCells,afS,vH,jM,goInt]
  ·cases h
 ·cases h
theorem vJ {z:List AV} {v:Value} (hz:aL ρ z v.cells.toList) (ho:z.all AV.aR=true) (m:Nat):aL ρ ((List.replicate m z).flatten) (Builtin.zeroCells v.cells m).toList/\((List.replicate m z).flatten).all AV.aR=true:=by
 have hl:=hz.length
 simp only [Array.length_toList] at hl
 have:=oC hz ho m
 rw [hl] at this
 exact ⟨this,(jZ hz ho m _ (Nat.le_refl _)).1⟩
theorem Ak {c:Call} (dU:c.callee=.builtin .clear) (h:dX P G (.call c) ty e J nid K=some r) (he:aJ n ρ e a) (aC:Rel RO P ρ fp J w):Goal RO P (.call c) ty a nid ρ fp J w K r:=by
 simp only [dX,dU] at h
 split at h
 ·rename_i sa k t hv ht
  obtain ⟨u1,ha,r1⟩:=MO (j8 he c.args) hv
  have MP:c.argTypes = #[t]:=by apply Array.ext';rw [ht]
  split at h
  ·rename_i el hu
   have fT:∀ {u:Value} {w':World},(Builtin.clear_ #[t] ty #[u1]).run P w=.ok u w'->∀ o:Oper,o.op=.call c->o.type=ty->(execOp a.eval o).run P w=.ok (.value u) w':=by
    intro u w' hr o ho nP
    subst nP
    simp only [execOp,ho,resolve,dU,Sem.run_bind,Sem.run_pure,Result.andThen_ok,invoke,builtin,MP,ha,hr]
   obtain ⟨A1,Wz,e1,vI,_⟩:=r1.qT
   cases hk:Nat.beq k 0 with
   |true=>
    rw [hk] at h
    have hk:=Nat.eq_of_beq_eq_true hk
    subst hk
    refine ⟨_,_,h,ej.value (fT (u:=.tuple #[]) (w':=w) ?_) (.aB [] [] .nil) (aS.refl aC)⟩
    rw [e1]
    cases A1<;>simp [Builtin.clear_,run_underlying hu]
   |false=>
    have LS:k≠0:=fun e=>by rw [e] at hk;cases hk
    simp only [hk,cond_false] at h
    split at h
    ·rename_i z hz
     obtain ⟨i,v,hi,Ww,-,g1,g2,g3,g4,g5⟩:=fK (ρ:=ρ) hz
     obtain ⟨J',jD,hQ⟩:=Option.bind_eq_some_iff.1 h
     unfold AH.zU at jD
     clear e1 h
     generalize wO:u1=uu1 at r1
     cases r1 with
     |B1=>exact absurd rfl LS
     |zD=>exact absurd rfl LS
     |Bz=>exact absurd rfl LS
     |sl _ _ _ c1 L1 Il p1 p2 p3=>
      obtain ⟨z1,z2⟩:=vJ g4 g1 k
      obtain ⟨fp',w',jM,hp⟩:=ud (S:=fun b=>b<J.next/\(aM (.call c)=true->b≠nid)) aC Il jD z1 z2
      refine ⟨_,_,hQ,ej.value (fT (u:=.tuple #[]) (w':=w') ?_) (.aB [] [] .nil) hp⟩
      rw [wO]
      cases k with
      |zero=>exact absurd rfl LS
      |succ k=>simp [Builtin.clear_,run_underlying hu,zeroValue,typeInfo,hi,Ww,jM]
    ·cases h
  ·cases h
 ·cases h
theorem pQ:∀ (cs:List AV) (us:List Value) (l:List UInt8),jB cs=some l->aL ρ cs us->∃ ns:List Int,us=ns.map (Value.int .u8)/\l=ns.map fun n=>UInt8.ofNat n.toNat
 |[],us,l,h,hr=>by cases hr;simp [jB] at h;exact ⟨[],rfl,by simp [h]⟩
 |c::cs,us,l,h,hr=>by
  cases hr with
  |cons _ u _ us h1 h2=>
   unfold jB at h
   split at h
   ·rename_i h';cases h'
   ·rename_i m r' h'
    cases h'
    simp only [Option.map_eq_some_iff] at h
    obtain ⟨l',D9,rfl⟩:=h
    obtain ⟨ns,e1,e2⟩:=pQ cs us l' D9 h2
    exact ⟨m::ns,by rw [h1.dJ,e1];rfl,by rw [e2];rfl⟩
   ·cases h
theorem Co {src dst:TypeId} {x:Operand} (h:dX P G (.convert src dst x) ty e J nid K=some r) (he:aJ n ρ e a) (aC:Rel RO P ρ fp J w):Goal RO P (.convert src dst x) ty a nid ρ fp J w K r:=by
 simp only [dX] at h
 have hx:=he.ev x
 split at h
 ·rename_i sa m lF
  rw [lF] at hx
  split at h
  ·rename_i el hu hd
   split at h
   ·rename_i vi
    have fT:∀ {u:Value} {uu:Value},a.eval x=uu->(convert src dst uu).run P w=.ok u w->∀ o:Oper,o.op=.convert src dst x->o.type=ty->(execOp a.eval o).run P w=.ok (.value u) w:=by
     intro u uu e1 hr o ho nP
     simp only [execOp,ho,e1,Sem.run_bind,hr,Result.andThen_ok,Sem.run_pure]
    obtain ⟨cs,ya,hQ⟩:=Option.bind_eq_some_iff.1 h
    clear h
    obtain ⟨l,hl,h⟩:=Option.bind_eq_some_iff.1 hQ
    clear hQ
    unfold AH.bT at ya
    clear lF
    generalize Cp:a.eval x=ux at hx
    cases hx with
    |Bz _ _ _ A=>
     have:cs=[]:=by
      simp only [Nat.zero_mul] at ya
      exact Ah ya
     subst this
     simp [jB] at hl;subst hl
     refine ⟨_,_,by assumption,ej.value (fT Cp (u:=.string ⟨#[]⟩) ?_) (.s ⟨#[]⟩) (aS.refl aC)⟩
     rw [run_convert_bytes_string w src dst el _ 0 0 hu vi hd]
     exact run_bytesToString w A 0 0 [] (by simp [loadCells,loadCellsFrom])
    |sl _ _ _ cap L hL h1 h2 h3=>
     obtain ⟨us,k1,k2,k3,k4⟩:=mX aC hL ya
     obtain ⟨ns,e1,e2⟩:=pQ cs us l hl k1
     have vH:=run_loadCells_list (P:=P) w _ us (fun j u hj=>by rw [j7];exact k4 j u hj)
     rw [k3,e1,Nat.mul_one] at vH
     refine ⟨_,_,by assumption,ej.value (fT Cp (u:=.string (ns.foldl (fun r n=>r.push (UInt8.ofNat n.toNat)) ByteArray.empty)) ?_) ?_ (aS.refl aC)⟩
     ·rw [run_convert_bytes_string w src dst el _ m cap hu vi hd]
      exact run_bytesToString w _ m cap ns vH
     ·rw [foldl_push_bytes,e2]
      have:=aK.s (ρ:=ρ) ⟨ByteArray.empty.data++(ns.map fun n=>UInt8.ofNat n.toNat).toArray⟩
      simpa using this
    |B1=>
     cases ya
     simp [jB] at hl;subst hl
     refine ⟨_,_,by assumption,ej.value (fT Cp (u:=.string ⟨#[]⟩) ?_) (.s ⟨#[]⟩) (aS.refl aC)⟩
     rw [run_convert_bytes_string w src dst el _ 0 0 hu vi hd]
     simp [Conv.bytesToString];rfl
    |zD A=>
     cases ya
     simp [jB] at hl;subst hl
     refine ⟨_,_,by assumption,ej.value (fT Cp (u:=.string ⟨#[]⟩) ?_) (.s ⟨#[]⟩) (aS.refl aC)⟩
     rw [run_convert_bytes_string w src dst el _ 0 0 hu vi hd]
     exact run_bytesToString w A 0 0 [] (by simp [loadCells,loadCellsFrom])
   ·cases h
  ·cases h
 ·exact ej.yp aC he h
theorem oA (hG:cS RO P G) {f:Nat} {xs:List AV} {J:AH O} {v:AV × AH O} (h:ny G f xs J=some v):(f<jK/\ag P f/\ai RO P f (ny G f)) ∨ (f<jK/\me P f (ny G f)) ∨ (f=jK/\gr RO P (ny G f)) ∨ ∃ c,f=c+sI/\ag P c/\ai RO P c (ny G f):=by
 induction G with
 |nil=>cases h
 |cons g G ih=>
  obtain ⟨g,s⟩:=g
  unfold ny at h ⊢
  cases hgf:Nat.beq g f with
  |true=>
   have:=Nat.eq_of_beq_eq_true hgf
   subst this
   simp only [hgf,cond_true] at h ⊢
   exact hG g s (by simp)
  |false=>
   simp only [hgf,cond_false] at h ⊢
   exact ih (fun f s hm=>hG f s (by simp [hm])) h
theorem Al (hG:cS RO P G) {c:Call} {f:Operand} (dU:c.callee=.value f) (h:dX P G (.call c) ty e J nid K=some r) (he:aJ n ρ e a) (aC:Rel RO P ρ fp J w):Goal RO P (.call c) ty a nid ρ fp J w K r:=by
 simp only [dX,dU] at h
 have hx:=he.ev f
 split at h
 ·rename_i x lF
  rw [lF] at hx
  simp only [Option.bind_eq_some_iff] at h
  obtain ⟨⟨v,J'⟩,hc,h⟩:=h
  have h:=j9 h
  unfold pB at hc
  split at hc
  ·rename_i g fi ca
   obtain ⟨hyk,hc⟩:Nat.ble jK g=false/\ny G g (fi++c.args.toList.map (Abs.ev e)++ca) J=some (v,J'):=by
    cases hb:Nat.ble jK g with
    |true=>rw [hb] at hc;cases hc
    |false=>rw [hb] at hc;exact ⟨rfl,hc⟩
   obtain ⟨yi,yj,uf,h1,h2⟩:=hx.Cf
   have hargs:aL ρ (fi++c.args.toList.map (Abs.ev e)++ca) (yi.toArray++c.args.map a.eval++yj.toArray).toList:=by
    simp only [Array.toList_append]
    exact (h1.append (j8 he c.args)).append h2
   rcases oA hG hc with ⟨_,RH,hs⟩ |⟨_,afU⟩ |⟨e,_⟩ |⟨c',e,_⟩
   ·refine ⟨v,J',h,fun ro o next Q ho nP hk=>?_⟩
    have jM:(execOp a.eval o).run P w=.ok (.enter g (yi.toArray++c.args.map a.eval++yj.toArray)) w:=by
     simp only [execOp,ho,resolve,dU,uf,Deferred.ofValue,Sem.run_bind,Sem.run_pure,Result.andThen_ok,invoke]
     exact RH _ w
    refine mV (fun c hc=>by rw [ho] at hc;cases hc) jM ?_
    refine ⟨fun h=>(Bool.false_ne_true h).elim,oB.2 ?_⟩
    refine (hs _ J v J' hc ρ fp w _ hargs aC).mono ?_
    rintro x w' ⟨aQ,fp',u,rfl,hu,hp⟩
    exact hk u w' aQ fp' hu (hp.mono fun b hb=>hb.1) (fun _ h2=>by simp [turns,dU] at h2)
   ·obtain ⟨rfl,hu⟩:=afU _ _ _ _ hc
    obtain ⟨u,wO,UA⟩:=hu ρ _ hargs
    refine ⟨v,_,h,ej.value (fun o ho nP=>?_) wO (aS.refl aC) (fun _ h2=>by simp [turns,dU] at h2)⟩
    simp only [execOp,ho,resolve,dU,uf,Deferred.ofValue,Sem.run_bind,Sem.run_pure,Result.andThen_ok,invoke]
    exact UA w
   ·subst e;simp at hyk
   ·subst e;have:=Nat.ble_eq_true_of_le (show jK<=c'+sI by show 1000000<=c'+2000000;omega);rw [hyk] at this;cases this
  ·rename_i b q1 q2
   obtain ⟨L,hL,uf⟩:=hx.RM
   rcases oA hG hc with ⟨h0,_⟩ |⟨h0,_⟩ |⟨_,hy⟩ |⟨c',h0,_⟩
   ·exact absurd h0 (Nat.lt_irrefl _)
   ·exact absurd h0 (Nat.lt_irrefl _)
   rotate_left
   ·exact absurd h0 (by show ¬ 1000000=c'+2000000;omega)
   ·refine ⟨v,J',h,fun ro o next Q ho nP hk=>?_⟩
    have hargs:aL ρ (c.args.toList.map (Abs.ev e)) (c.args.map a.eval).toList:=j8 he c.args
    obtain ⟨r,hr,kA,RN⟩:=hy b 0 _ J v J' hc ρ fp w (c.args.map a.eval) L hL hargs aC
    have jM:(execOp a.eval o).run P w=.ok (.round L.B r.fn ((r.params.zip (c.args.map a.eval)).foldl (fun tmps (t,a)=>tmps.setIfInBounds t a) r.tmps) r.assign r.body) w:=by
     simp only [execOp,ho,resolve,dU,uf,Deferred.ofValue,Sem.run_bind,Sem.run_pure,Result.andThen_ok,invoke]
     simpa using run_yield hr kA
    refine mV (fun c hc=>by rw [ho] at hc;cases hc) jM ?_
    refine ⟨fun h=>(Bool.false_ne_true h).elim,RoundIn.mono (show RoundIn (Fw ro) 0 P L.B r.fn _ r.assign r.body w _ from RN) ?_⟩
    rintro x w' ⟨aQ,fp',u,rfl,hu,hp⟩
    exact hk u w' aQ fp' hu (hp.mono fun b hb=>hb.1) (fun _ h2=>by simp [turns,dU] at h2)
  ·cases hc
 ·cases h
theorem Io (hG:cS RO P G) {op:Op} (h:dX P G op ty e J nid K=some r) (he:aJ n ρ e a) (aC:Rel RO P ρ fp J w) (hn:aM op=true->nid<J.next/\ρ nid=none):
  Goal RO P op ty a nid ρ fp J w K r:=by
 cases op
 case alloc=>obtain ⟨a1,a3⟩:=hn rfl;exact Ae h aC a1 a3
 case box=>obtain ⟨a1,a3⟩:=hn rfl;exact FO h he aC a1 a3
 case buildSlice=>obtain ⟨a1,a3⟩:=hn rfl;exact qS h he aC a1 a3
 case makeSlice=>obtain ⟨a1,a3⟩:=hn rfl;exact sJ h he aC a1 a3
 case makeMap=>obtain ⟨a1,a3⟩:=hn rfl;exact vK h he aC a1 a3
 case lookup=>exact yu h he aC
 case mapUpdate=>exact sL h he aC
 case load=>exact Cj h he aC
 case store=>exact Ag h he aC
 case convert=>exact Co h he aC
 case call c=>
  cases dU:c.callee with
  |value f=>exact Al hG dU h he aC
  |invoke x m=>
   have h':=h
   simp only [dX,dU] at h'
   exact ej.yp aC he h'
  |builtin b=>
   cases b
   case append=>
    obtain ⟨a1,a3⟩:=hn (by cases c;simp only at dU;subst dU;rfl)
    exact yr dU h he aC a1 a3
   case copy=>exact Cn dU h he aC
   case clear=>exact Ak dU h he aC
   case delete=>exact yv dU h he aC
   all_goals
    have h':=h
    simp only [dX,dU] at h'
    exact ej.yp aC he h'
 all_goals exact ej.yp aC he h
end Go.Abs
