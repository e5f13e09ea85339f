/-
  AbsHeap2: copy, clear, bytes as a string, calls; and all operations together.
-/
import Derived.Test.YtncohicmiihjiaaGreatAbsMap
import Derived.Laws.BytesString
import Derived.Laws.BytesArg
set_option linter.unusedVariables false
set_option linter.unusedSimpArgs false
set_option linter.constructorNameAsVariable false
namespace Go.Abs
open Go
variable {O:Type} {RO:O->Loc->(Nat->Option Obj)->Prop} {P:Program} {ρ:bT} {fp:Fp} {J:AH O} {w:World} {n:Nat} {e:Env} {a:Act} {R:Type}
variable {G:List (Nat × Sm O)} {ty:TypeId} {nid:Nat} {K:AV->AH O->Option R} {r:R}
theorem CD {c:Call} (dN:c.callee=.builtin .copy) (h:dF P G (.call c) ty e J nid K=some r) (he:aC n ρ e a) (aA:Rel RO P ρ fp J w):Goal RO P (.call c) ty a nid ρ fp J w K r:=by
 simp only [dF,dN] at h
 split at h
 ·rename_i sa k Vo m t t' hv ht
  obtain ⟨u1,u2,ha,r1,r2⟩:=ud (jW he c.args) hv
  have Nv:c.argTypes = #[t,t']:=by apply Array.ext';rw [ht]
  split at h
  ·rename_i el hu
   obtain ⟨inf,iH,hA⟩:=dB h
   clear h hv
   have fS:∀ {u:Value} {w':World},(Builtin.copy_ #[t,t'] ty #[u1,u2]).run P w=.ok u w'->∀ o:Oper,o.op=.call c->o.type=ty->(execOp a.eval o).run P w=.ok (.value u) w':=by
    intro u w' hr o ho nL
    subst nL
    simp only [execOp,ho,resolve,dN,Sem.run_bind,Sem.run_pure,Result.andThen_ok,invoke,builtin,Nv,ha,hr]
   obtain ⟨A1,Xl,e1,vO,_⟩:=r1.qL
   obtain ⟨A2,agh,e2,Ei,_⟩:=r2.qL
   cases hk:Nat.beq (min m k) 0 with
   |true=>
    rw [hk] at hA
    have hk:=Nat.eq_of_beq_eq_true hk
    refine ⟨_,_,hA,dM.value (fS (u:=.int .i64 0) (w':=w) ?_) (.i _ _) (aR.refl aA)⟩
    have oL:Nat.min m k=0:=hk
    rw [e1,e2]
    cases A1<;>cases A2<;>simp [Builtin.copy_,run_underlying hu,Builtin.lenOf,oL,sizeOf,typeInfo,iH,Builtin.firstCells,loadCells,loadCellsFrom,storeCells,goInt]
   |false=>
    simp only [hk,cond_false] at hA
    obtain ⟨cs,yb,hA⟩:=Option.bind_eq_some_iff.1 hA
    obtain ⟨J',gh,h⟩:=Option.bind_eq_some_iff.1 hA
    have Ej:min m k≠0:=fun e=>by rw [e] at hk;cases hk
    unfold AH.bU at yb
    unfold AH.zZ at gh
    clear e1 e2
    generalize wQ:u1=uu1 at r1
    generalize Vp:u2=uu2 at r2
    cases r1 with
    |Cj=>cases gh
    |zB=>cases gh
    |BT=>simp at Ej
    |sl _ _ _ c1 L1 Xm p1 p2 p3=>
     cases r2 with
     |Cj=>simp at Ej
     |zB=>simp at Ej
     |BT=>simp at Ej
     |sl _ _ _ c2 L2 hL2 q1 q2 q3=>
      obtain ⟨us,k1,k2,k3,k4⟩:=mU aA hL2 yb
      obtain ⟨fp',w',fN,hp⟩:=ua (S:=fun b=>b<J.next/\(aM (.call c)=true->b≠nid)) aA Xm gh k1 k2
      have vM:=run_loadCells_list (P:=P) w _ us (fun j u hj=>by rw [jV];exact k4 j u hj)
      refine ⟨_,_,h,dM.value (fS (u:=.int .i64 (min m k:Nat)) (w':=w') ?_) (.i _ _) hp⟩
      rw [wQ,Vp]
      have SD:Nat.min m k=min m k:=rfl
      rw [k3] at vM
      simp [Builtin.copy_,run_underlying hu,Builtin.lenOf,sizeOf,typeInfo,iH,Builtin.firstCells,SD,vM,fN,goInt]
  ·cases h
 ·cases h
theorem vP {z:List AV} {v:Value} (hz:aL ρ z v.cells.toList) (ho:z.all AV.aU=true) (m:Nat):aL ρ ((List.replicate m z).flatten) (Builtin.zeroCells v.cells m).toList/\((List.replicate m z).flatten).all AV.aU=true:=by
 have hl:=hz.length
 simp only [Array.length_toList] at hl
 have:=oc hz ho m
 rw [hl] at this
 exact ⟨this,(jU hz ho m _ (Nat.le_refl _)).1⟩
theorem Ar {c:Call} (dN:c.callee=.builtin .clear) (h:dF P G (.call c) ty e J nid K=some r) (he:aC n ρ e a) (aA:Rel RO P ρ fp J w):Goal RO P (.call c) ty a nid ρ fp J w K r:=by
 simp only [dF,dN] at h
 split at h
 ·rename_i sa k t hv ht
  obtain ⟨u1,ha,r1⟩:=Nu (jW he c.args) hv
  have Nv:c.argTypes = #[t]:=by apply Array.ext';rw [ht]
  split at h
  ·rename_i el hu
   have fS:∀ {u:Value} {w':World},(Builtin.clear_ #[t] ty #[u1]).run P w=.ok u w'->∀ o:Oper,o.op=.call c->o.type=ty->(execOp a.eval o).run P w=.ok (.value u) w':=by
    intro u w' hr o ho nL
    subst nL
    simp only [execOp,ho,resolve,dN,Sem.run_bind,Sem.run_pure,Result.andThen_ok,invoke,builtin,Nv,ha,hr]
   obtain ⟨A1,Xl,e1,vO,_⟩:=r1.qL
   cases hk:Nat.beq k 0 with
   |true=>
    rw [hk] at h
    have hk:=Nat.eq_of_beq_eq_true hk
    subst hk
    refine ⟨_,_,h,dM.value (fS (u:=.tuple #[]) (w':=w) ?_) (.aG [] [] .nil) (aR.refl aA)⟩
    rw [e1]
    cases A1<;>simp [Builtin.clear_,run_underlying hu]
   |false=>
    have Mn:k≠0:=fun e=>by rw [e] at hk;cases hk
    simp only [hk,cond_false] at h
    split at h
    ·rename_i z hz
     obtain ⟨i,v,hi,Xi,-,g1,g2,g3,g4,g5⟩:=fL (ρ:=ρ) hz
     obtain ⟨J',gh,hQ⟩:=Option.bind_eq_some_iff.1 h
     unfold AH.zZ at gh
     clear e1 h
     generalize wQ:u1=uu1 at r1
     cases r1 with
     |Cj=>exact absurd rfl Mn
     |zB=>exact absurd rfl Mn
     |BT=>exact absurd rfl Mn
     |sl _ _ _ c1 L1 Xm p1 p2 p3=>
      obtain ⟨z1,z2⟩:=vP g4 g1 k
      obtain ⟨fp',w',fN,hp⟩:=ua (S:=fun b=>b<J.next/\(aM (.call c)=true->b≠nid)) aA Xm gh z1 z2
      refine ⟨_,_,hQ,dM.value (fS (u:=.tuple #[]) (w':=w') ?_) (.aG [] [] .nil) hp⟩
      rw [wQ]
      cases k with
      |zero=>exact absurd rfl Mn
      |succ k=>simp [Builtin.clear_,run_underlying hu,zeroValue,typeInfo,hi,Xi,fN]
    ·cases h
  ·cases h
 ·cases h
theorem pC:∀ (cs:List AV) (us:List Value) (l:List UInt8),ju cs=some l->aL ρ cs us->∃ ns:List Int,us=ns.map (Value.int .u8)/\l=ns.map fun n=>UInt8.ofNat n.toNat
 |[],us,l,h,hr=>by cases hr;simp [ju] at h;exact ⟨[],rfl,by simp [h]⟩
 |c::cs,us,l,h,hr=>by
  cases hr with
  |cons _ u _ us h1 h2=>
   unfold ju at h
   split at h
   ·rename_i h';cases h'
   ·rename_i m r' h'
    cases h'
    simp only [Option.map_eq_some_iff] at h
    obtain ⟨l',Eh,rfl⟩:=h
    obtain ⟨ns,e1,e2⟩:=pC cs us l' Eh h2
    exact ⟨m::ns,by rw [h1.dK,e1];rfl,by rw [e2];rfl⟩
   ·cases h
theorem CE {src dst:TypeId} {x:Operand} (h:dF P G (.convert src dst x) ty e J nid K=some r) (he:aC n ρ e a) (aA:Rel RO P ρ fp J w):Goal RO P (.convert src dst x) ty a nid ρ fp J w K r:=by
 simp only [dF] at h
 have hx:=he.ev x
 split at h
 ·rename_i sa m lD
  rw [lD] at hx
  split at h
  ·rename_i el hu hd
   split at h
   ·rename_i tE
    have fS:∀ {u:Value} {uu:Value},a.eval x=uu->(convert src dst uu).run P w=.ok u w->∀ o:Oper,o.op=.convert src dst x->o.type=ty->(execOp a.eval o).run P w=.ok (.value u) w:=by
     intro u uu e1 hr o ho nL
     simp only [execOp,ho,e1,Sem.run_bind,hr,Result.andThen_ok,Sem.run_pure]
    obtain ⟨cs,yb,hQ⟩:=Option.bind_eq_some_iff.1 h
    clear h
    obtain ⟨l,hl,h⟩:=Option.bind_eq_some_iff.1 hQ
    clear hQ
    unfold AH.bU at yb
    clear lD
    generalize CF:a.eval x=ux at hx
    cases hx with
    |BT _ _ _ A=>
     have:cs=[]:=by
      simp only [Nat.zero_mul] at yb
      exact Ao yb
     subst this
     simp [ju] at hl;subst hl
     refine ⟨_,_,by assumption,dM.value (fS CF (u:=.string ⟨#[]⟩) ?_) (.s ⟨#[]⟩) (aR.refl aA)⟩
     rw [run_convert_bytes_string w src dst el _ 0 0 hu tE hd]
     exact run_bytesToString w A 0 0 [] (by simp [loadCells,loadCellsFrom])
    |sl _ _ _ cap L hL h1 h2 h3=>
     obtain ⟨us,k1,k2,k3,k4⟩:=mU aA hL yb
     obtain ⟨ns,e1,e2⟩:=pC cs us l hl k1
     have vM:=run_loadCells_list (P:=P) w _ us (fun j u hj=>by rw [jV];exact k4 j u hj)
     rw [k3,e1,Nat.mul_one] at vM
     refine ⟨_,_,by assumption,dM.value (fS CF (u:=.string (ns.foldl (fun r n=>r.push (UInt8.ofNat n.toNat)) ByteArray.empty)) ?_) ?_ (aR.refl aA)⟩
     ·rw [run_convert_bytes_string w src dst el _ m cap hu tE hd]
      exact run_bytesToString w _ m cap ns vM
     ·rw [foldl_push_bytes,e2]
      have:=aK.s (ρ:=ρ) ⟨ByteArray.empty.data++(ns.map fun n=>UInt8.ofNat n.toNat).toArray⟩
      simpa using this
    |Cj=>
     cases yb
     simp [ju] at hl;subst hl
     refine ⟨_,_,by assumption,dM.value (fS CF (u:=.string ⟨#[]⟩) ?_) (.s ⟨#[]⟩) (aR.refl aA)⟩
     rw [run_convert_bytes_string w src dst el _ 0 0 hu tE hd]
     simp [Conv.bytesToString];rfl
    |zB A=>
     cases yb
     simp [ju] at hl;subst hl
     refine ⟨_,_,by assumption,dM.value (fS CF (u:=.string ⟨#[]⟩) ?_) (.s ⟨#[]⟩) (aR.refl aA)⟩
     rw [run_convert_bytes_string w src dst el _ 0 0 hu tE hd]
     exact run_bytesToString w A 0 0 [] (by simp [loadCells,loadCellsFrom])
   ·cases h
  ·cases h
 ·exact dM.yo aA he h
theorem nY (hG:eH RO P G) {f:Nat} {xs:List AV} {J:AH O} {v:AV × AH O} (h:qA G f xs J=some v):(f<kx/\ag P f/\ah RO P f (qA G f)) ∨ (f<kx/\iW P f (qA G f)) ∨ (f=kx/\qJ RO P (qA G f)) ∨ ∃ c,f=c+tI/\ag P c/\ah RO P c (qA G f):=by
 induction G with
 |nil=>cases h
 |cons g G ih=>
  obtain ⟨g,s⟩:=g
  unfold qA at h ⊢
  cases hgf:Nat.beq g f with
  |true=>
   have:=Nat.eq_of_beq_eq_true hgf
   subst this
   simp only [hgf,cond_true] at h ⊢
   exact hG g s (by simp)
  |false=>
   simp only [hgf,cond_false] at h ⊢
   exact ih (fun f s hm=>hG f s (by simp [hm])) h
theorem As (hG:eH RO P G) {c:Call} {f:Operand} (dN:c.callee=.value f) (h:dF P G (.call c) ty e J nid K=some r) (he:aC n ρ e a) (aA:Rel RO P ρ fp J w):Goal RO P (.call c) ty a nid ρ fp J w K r:=by
 simp only [dF,dN] at h
 have hx:=he.ev f
 split at h
 ·rename_i x lD
  rw [lD] at hx
  simp only [Option.bind_eq_some_iff] at h
  obtain ⟨⟨v,J'⟩,hc,h⟩:=h
  have h:=jX h
  unfold D7 at hc
  split at hc
  ·rename_i g fi ca
   obtain ⟨hyk,hc⟩:Nat.ble kx g=false/\qA G g (fi++c.args.toList.map (Abs.ev e)++ca) J=some (v,J'):=by
    cases hb:Nat.ble kx g with
    |true=>rw [hb] at hc;cases hc
    |false=>rw [hb] at hc;exact ⟨rfl,hc⟩
   obtain ⟨yj,yk,uf,h1,h2⟩:=hx.Cv
   have hargs:aL ρ (fi++c.args.toList.map (Abs.ev e)++ca) (yj.toArray++c.args.map a.eval++yk.toArray).toList:=by
    simp only [Array.toList_append]
    exact (h1.append (jW he c.args)).append h2
   rcases nY hG hc with ⟨_,Sy,hs⟩ |⟨_,F6⟩ |⟨e,_⟩ |⟨c',e,_⟩
   ·refine ⟨v,J',h,fun ro o next Q ho nL hk=>?_⟩
    have fN:(execOp a.eval o).run P w=.ok (.enter g (yj.toArray++c.args.map a.eval++yk.toArray)) w:=by
     simp only [execOp,ho,resolve,dN,uf,Deferred.ofValue,Sem.run_bind,Sem.run_pure,Result.andThen_ok,invoke]
     exact Sy _ w
    refine fC (fun c hc=>by rw [ho] at hc;cases hc) fN ?_
    refine ⟨fun h=>(Bool.false_ne_true h).elim,nZ.2 ?_⟩
    refine (hs _ J v J' hc ρ fp w _ hargs aA).mono ?_
    rintro x w' ⟨aQ,fp',u,rfl,hu,hp⟩
    exact hk u w' aQ fp' hu (hp.mono fun b hb=>hb.1) (fun _ h2=>by simp [turns,dN] at h2)
   ·obtain ⟨rfl,hu⟩:=F6 _ _ _ _ hc
    obtain ⟨u,wQ,Vp⟩:=hu ρ _ hargs
    refine ⟨v,_,h,dM.value (fun o ho nL=>?_) wQ (aR.refl aA) (fun _ h2=>by simp [turns,dN] at h2)⟩
    simp only [execOp,ho,resolve,dN,uf,Deferred.ofValue,Sem.run_bind,Sem.run_pure,Result.andThen_ok,invoke]
    exact Vp w
   ·subst e;simp at hyk
   ·subst e;have:=Nat.ble_eq_true_of_le (show kx<=c'+tI by show 1000000<=c'+2000000;omega);rw [hyk] at this;cases this
  ·rename_i b q1 q2
   obtain ⟨L,hL,uf⟩:=hx.SE
   rcases nY hG hc with ⟨h0,_⟩ |⟨h0,_⟩ |⟨_,hy⟩ |⟨c',h0,_⟩
   ·exact absurd h0 (Nat.lt_irrefl _)
   ·exact absurd h0 (Nat.lt_irrefl _)
   rotate_left
   ·exact absurd h0 (by show ¬ 1000000=c'+2000000;omega)
   ·refine ⟨v,J',h,fun ro o next Q ho nL hk=>?_⟩
    have hargs:aL ρ (c.args.toList.map (Abs.ev e)) (c.args.map a.eval).toList:=jW he c.args
    obtain ⟨r,hr,jM,SF⟩:=hy b 0 _ J v J' hc ρ fp w (c.args.map a.eval) L hL hargs aA
    have fN:(execOp a.eval o).run P w=.ok (.round L.B r.fn ((r.params.zip (c.args.map a.eval)).foldl (fun tmps (t,a)=>tmps.setIfInBounds t a) r.tmps) r.assign r.body) w:=by
     simp only [execOp,ho,resolve,dN,uf,Deferred.ofValue,Sem.run_bind,Sem.run_pure,Result.andThen_ok,invoke]
     simpa using run_yield hr jM
    refine fC (fun c hc=>by rw [ho] at hc;cases hc) fN ?_
    refine ⟨fun h=>(Bool.false_ne_true h).elim,RoundIn.mono (show RoundIn (Fw ro) 0 P L.B r.fn _ r.assign r.body w _ from SF) ?_⟩
    rintro x w' ⟨aQ,fp',u,rfl,hu,hp⟩
    exact hk u w' aQ fp' hu (hp.mono fun b hb=>hb.1) (fun _ h2=>by simp [turns,dN] at h2)
  ·cases hc
 ·cases h
theorem II (hG:eH RO P G) {op:Op} (h:dF P G op ty e J nid K=some r) (he:aC n ρ e a) (aA:Rel RO P ρ fp J w) (hn:aM op=true->nid<J.next/\ρ nid=none):
  Goal RO P op ty a nid ρ fp J w K r:=by
 cases op
 case alloc=>obtain ⟨a1,a3⟩:=hn rfl;exact Al h aA a1 a3
 case box=>obtain ⟨a1,a3⟩:=hn rfl;exact F4 h he aA a1 a3
 case buildSlice=>obtain ⟨a1,a3⟩:=hn rfl;exact qK h he aA a1 a3
 case makeSlice=>obtain ⟨a1,a3⟩:=hn rfl;exact ss h he aA a1 a3
 case makeMap=>obtain ⟨a1,a3⟩:=hn rfl;exact vQ h he aA a1 a3
 case range=>obtain ⟨a1,a3⟩:=hn rfl;exact Au h he aA a1 a3
 case entry=>exact Av h he aA
 case lookup=>exact yr h he aA
 case mapUpdate=>exact sv h he aA
 case load=>exact Cz h he aA
 case store=>exact An h he aA
 case convert=>exact CE h he aA
 case call c=>
  cases dN:c.callee with
  |value f=>exact As hG dN h he aA
  |invoke x m=>
   have h':=h
   simp only [dF,dN] at h'
   exact dM.yo aA he h'
  |builtin b=>
   cases b
   case append=>
    obtain ⟨a1,a3⟩:=hn (by cases c;simp only at dN;subst dN;rfl)
    exact yq dN h he aA a1 a3
   case copy=>exact CD dN h he aA
   case clear=>exact Ar dN h he aA
   case delete=>exact yu dN h he aA
   all_goals
    have h':=h
    simp only [dF,dN] at h'
    exact dM.yo aA he h'
 all_goals exact dM.yo aA he h
end Go.Abs
