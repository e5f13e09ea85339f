/-
  AbsRegion: a region whose order is the text's.
-/
import Derived.Test.YtncohicmiihjiaaGreatAbsTrace
set_option linter.unusedVariables false
set_option linter.unusedSimpArgs false
set_option linter.constructorNameAsVariable false
namespace Go.Abs
open Go
variable {O:Type} {RO:O->Loc->(Nat->Option Obj)->Prop} {P:Program} {G:List (Nat × Sm O)} {fG:List Nat} {ops:List Oper} {n:Nat}
theorem jQ (hG:eH RO P G) {ρ:bT} {fp:Fp} {J J':AH O} {w:World} {e:Env} {a:Act} {op:Op} {ty:TypeId} {nid:Nat} {v:AV} (h:dF P G op ty e J nid two=some (v,J')) (he:aC n ρ e a) (aA:Rel RO P ρ fp J w)
  (hn:aM op=true->nid<J.next/\ρ nid=none):dM RO P op ty a nid ρ fp J w v J':=by
 obtain ⟨v1,J1,h1,h2⟩:=II hG h he aA hn
 simp only [two,Option.some.injEq,Prod.mk.injEq] at h1
 obtain ⟨rfl,rfl⟩:=h1
 exact h2
theorem wD {ρ:bT} {e:Env} {a:Act} {o:Oper} {b:Bool} (gJ:∀ (i:Nat) (o:Oper) (d:Nat),ops[i]? = some o->o.dst=some d->d<n) (jM:a.tmps.size=n)
  (he:∀ j gT,o.guard=some (j,gT)->∀ oj,ops[j]? = some oj->∀ d,oj.dst=some d->aK ρ (e d) (a.tmps.getD d undef)) (h:cx ops e o=some b):Region.wanted o (yielded ops.toArray a.tmps)=b:=by
 unfold cx at h
 unfold Region.wanted
 split at h
 ·rename_i hg;rw [hg];simpa using h
 ·rename_i j gT hg
  rw [hg]
  simp only
  split at h
  ·cases h
  ·rename_i oj Iv
   split at h
   ·cases h
   ·rename_i d hd
    split at h
    ·rename_i t ht
     have hr:=he j gT hg oj Iv d hd
     rw [ht] at hr
     have hv:=hr.wI
     have aY:d<a.tmps.size:=by rw [jM];exact gJ j oj d Iv hd
     have:a.tmps[d]? = some (.bool t):=by
      rw [<-hv];simp [Array.getD,aY]
     have hy:yielded ops.toArray a.tmps j=some t:=by
      simp [yielded,Iv,hd,this]
     rw [hy]
     cases h;cases t<;>cases gT<;>rfl
    ·rename_i ht
     have hr:=he j gT hg oj Iv d hd
     rw [ht] at hr
     obtain ⟨vs,hv,hvs⟩:=hr.yn
     have aY:d<a.tmps.size:=by rw [jM];exact gJ j oj d Iv hd
     have:a.tmps[d]? = some (.tuple vs.toArray):=by
      rw [<-hv];simp [Array.getD,aY]
     have hy:yielded ops.toArray a.tmps j=none:=by
      simp [yielded,Iv,hd,this]
     rw [hy]
     cases h;rfl
    ·cases h
def AO (ops:List Oper) (p:Nat):Nat:=dS (ops.drop p)
theorem Gc {p:Nat} {o:Oper} (h:ops[p]? = some o):AO ops p=(if aM o.op=true then 1 else 0)+AO ops (p+1):=by
 have aY:=(List.getElem?_eq_some_iff.1 h).1
 have hv:=(List.getElem?_eq_some_iff.1 h).2
 unfold AO dS
 rw [List.drop_eq_getElem_cons aY,hv,List.filter_cons]
 split<;>simp;omega
theorem kD {i d:Nat} {o:Oper} (h:ops[i]? = some o) (hd:o.dst=some d):d∈kz ops:=by
 simp only [kz,List.mem_filterMap]
 exact ⟨o,List.mem_of_getElem? h,hd⟩
theorem jS {a:Act} {dst:Option Nat} {t:Nat} (h:∀ d,dst=some d->t≠d) (u:Value):(a.put dst u).tmps.getD t undef=a.tmps.getD t undef:=by
 cases dst with
 |none=>rfl
 |some d=>
  have:=h d rfl
  simp only [Act.put,Array.getD_eq_getD_getElem?,Array.getElem?_setIfInBounds,Ne.symm this,if_false]
theorem aC.weaken {ρ:bT} {e e':Env} {a:Act} (h:aC n ρ e a) (hk:∀ t,e' t=e t ∨ e' t=.u):aC n ρ e' a:=
 ⟨h.size,fun t=>by
  rcases hk t with q |q
  ·rw [q];exact h.get t
  ·rw [q];exact .u _⟩
theorem qS (hG:eH RO P G) (gJ:∀ (i:Nat) (o:Oper) (d:Nat),ops[i]? = some o->o.dst=some d->d<n) {S:Nat->RS O} {V:Nat->AV} {base top:Nat}
  (htr:∀ p,p<ops.length->∃ o,ops[p]? = some o/\nM P G ops o (S p) (S (p+1)) (V p)):
  ∀ (m p:Nat),p+m=ops.length->∀ (ρ:bT) (fp:Fp) (a:Act) (w:World),aC n ρ (S p).e a->Rel RO P ρ fp (S p).J w->base<=(S p).nid->(S p).nid+AO ops p<=top->top<=(S p).J.next->(∀ b,(S p).nid<=b->b<top->ρ b=none)->
   ∀ (ro:Option Nat) (Q:Exit->Act->World->Prop),(∀ a' w' aQ fp',aC n aQ (S ops.length).e a'->a'.defers=a.defers->(∀ t,t∉kz ops->a'.tmps.getD t undef=a.tmps.getD t undef)->aR RO P (· < base) ρ fp (S p).J w aQ fp' (S ops.length).J w'->Q .normal a' w')->wpOpsIn (Fw ro) 0 P ops.toArray Q (List.range' p m) a w
 |0,p,hp,ρ,fp,a,w,he,aA,h1,h2,h3,h4,ro,Q,hQ=>by
  have:p=ops.length:=by omega
  subst this
  exact hQ a w ρ fp he rfl (fun _ _=>rfl) (aR.refl aA)
 |m+1,p,hp,ρ,fp,a,w,he,aA,h1,h2,h3,h4,ro,Q,hQ=>by
  have aY:p<ops.length:=by omega
  obtain ⟨o,ho,hse,Xw,gh⟩:=htr p aY
  have kI:=Gc ho
  have FT:(S (p+1)).nid+AO ops (p+1)=(S p).nid+AO ops p:=by rw [Xw,kI];split<;>omega
  have hge:(S p).nid<=(S (p+1)).nid:=by rw [Xw];split<;>omega
  rw [List.range'_succ,wpOpsIn]
  have So:ops.toArray[p]? = some o:=by simpa using ho
  rw [So]
  simp only
  have hw:=fun b (hb:cx ops (S p).e o=some b)=>wD gJ he.size (fun j gT _ oj _ d _=>he.get d) hb
  rcases gh with ⟨g1,g2⟩ |⟨g1,g2,g3⟩
  ·rw [hw true g1,if_pos rfl]
   have hOK:=jQ hG g2 he aA (fun eI=>by
    rw [eI,if_pos rfl] at kI
    exact ⟨by omega,h4 _ (Nat.le_refl _) (by omega)⟩)
   refine hOK ro o _ Q rfl rfl fun u w' aQ fp' hu vA _=>?_
   have oM:aC n aQ (S (p+1)).e (a.put o.dst u):=
    aC.weaken ((he.mono vA.le).put (fun d hd=>gJ p o d ho hd) hu) hse
   refine qS (base:=base) (top:=top) hG gJ htr m (p+1) (by omega) aQ fp' _ w' oM vA.rel (by omega) (by rw [FT];exact h2) (Nat.le_trans h3 vA.next) (fun b cy eO=>?_) ro Q fun a' vI vJ vK k1 k2 kk k3=>?_
   ·rw [vA.ext b ⟨by omega,fun eI=>by rw [Xw,eI,if_pos rfl] at cy;omega⟩]
    exact h4 b (by omega) eO
   ·refine hQ a' vI vJ vK k1 (by rw [k2];cases o.dst<;>rfl) (fun t ht=>(kk t ht).trans (jS (fun d hd e=>ht (by rw [e];exact kD ho hd)) u)) ?_
    exact (vA.mono fun b hb=>⟨by omega,fun _=>by omega⟩).trans k3
  ·rw [hw false g1,if_neg (by simp)]
   refine ⟨fun _ _=>trivial,?_⟩
   have oM:aC n ρ (S (p+1)).e (a.put o.dst undef):=by
    refine aC.weaken ?_ hse
    rw [g2]
    exact he.put (fun d hd=>gJ p o d ho hd) (.aG [] [] .nil)
   have Xx:Rel RO P ρ fp (S (p+1)).J w:=by rw [g3];exact aA
   refine qS (base:=base) (top:=top) hG gJ htr m (p+1) (by omega) ρ fp _ w oM Xx (by omega) (by rw [FT];exact h2) (by rw [g3];exact h3) (fun b cy eO=>h4 b (by omega) eO) ro Q fun a' vI vJ vK k1 k2 kk k3=>?_
   refine hQ a' vI vJ vK k1 (by rw [k2];cases o.dst<;>rfl) (fun t ht=>(kk t ht).trans (jS (fun d hd e=>ht (by rw [e];exact kD ho hd)) undef)) ?_
   rw [g3] at k3
   exact k3
def Qt (RO:O->Loc->(Nat->Option Obj)->Prop) (P:Program) (n:Nat) (c:Code) (J:AH O) (e:Env) (e':Env) (J':AH O):Prop:=
 ∀ (ρ:bT) (fp:Fp) (a:Act) (w:World),aC n ρ e a->Rel RO P ρ fp J w->
  ∀ (ro:Option Nat) (Q:Exit->Act->World->Prop),(∀ a' w' aQ fp',aC n aQ e' a'->a'.defers=a.defers->(∀ t,t∉aB c->a'.tmps.getD t undef=a.tmps.getD t undef)->aR RO P (· < J.next) ρ fp J w aQ fp' J' w'->Q .normal a' w')->c.wpIn (Fw ro) 0 P Q a w
theorem Rel.ax {ρ:bT} {fp:Fp} {J:AH O} {w:World} (h:Rel RO P ρ fp J w) (k:Nat):Rel RO P ρ fp (J.ax k) w:=
 ⟨fun b hb=>h.next b (by simp only [AH.ax] at hb;omega),h.aa,h.dead,h.has,h.iC,h.fz⟩
theorem aR.yg {ρ aQ:bT} {fp fp':Fp} {J J':AH O} {w w':World} {k:Nat} (h:aR RO P (· < J.next) ρ fp (J.ax k) w aQ fp' J' w'):aR RO P (· < J.next) ρ fp J w aQ fp' J' w':=
 ⟨h.rel,h.fr,h.grow,h.Np,h.le,h.ext,fun b hb aY h0=>h.blank b hb (by simp only [AH.ax];omega) h0,by have:=h.next;simp only [AH.ax] at this;omega⟩
theorem wF (J:AH O) (k:Nat):(bif Nat.beq k 0 then J else J.ax k)=J.ax k:=by
 cases h:Nat.beq k 0 with
 |true=>have:=Nat.eq_of_beq_eq_true h;subst this;rfl
 |false=>rfl
theorem uC:AO ops 0=dS ops:=by simp [AO]
theorem qH (hG:eH RO P G) {R:Type} {qB:List (Nat × Nat × List (Nat × Ty))} {ord bf:List Nat} {ops:Array Oper} {id:Nat} {e:Env} {J:AH O} {K:Env->AH O->Option R} {r:R}
  (gJ:∀ (i:Nat) (o:Oper) (d:Nat),ops.toList[i]? = some o->o.dst=some d->d<n) (h:ph P G false qB ops.toList ord bf e J K=some r):
  ∃ e' J',K e' J'=some r/\Qt RO P n (.region id ops false) J e e' J':=by
 unfold ph at h
 simp only [cond_false,wF] at h
 obtain ⟨S,V,s',ht,h3⟩:=trace _ _ _ _ _ h
 have h1:=ht.tr.z
 have h2:=ht.tr.st
 have hf:=ht.fin
 rw [List.length_range] at h2 hf
 refine ⟨s'.e,s'.J,h3,fun ρ fp a w he aA ro Q hQ=>?_⟩
 ·refine wpIn_region ?_
  have e1:List.range ops.size=List.range' 0 ops.toList.length:=by rw [List.range_eq_range'];simp
  rw [e1]
  have e2:ops=ops.toList.toArray:=by simp
  have hb:(S 0).J=J.ax (dS ops.toList):=h1.J
  have hn:(S 0).nid=J.next:=h1.nid
  have:=qS (n:=n) (ops:=ops.toList) hG gJ (S:=S) (V:=V) (base:=J.next) (top:=J.next+dS ops.toList) (fun p hp=>by
   obtain ⟨i,o,g1,g2,g3⟩:=h2 p hp
   rw [List.getElem?_range hp] at g1;cases g1
   exact ⟨o,g2,g3⟩) ops.toList.length 0 (by omega) ρ fp a w (he.weaken h1.e) (by rw [hb];exact aA.ax _) (by rw [hn];exact Nat.le_refl _) (by rw [hn,uC];exact Nat.le_refl _) (by rw [hb];exact Nat.le_refl _)
   (
    fun b cy _=>(aA.next b (by rw [hn] at cy;exact cy)).1) ro Q fun a' w' aQ fp' k1 k2 kk k3=>by
    rw [hb,<-hf.J] at k3
    exact hQ a' w' aQ fp' (k1.weaken hf.e) k2 kk (aR.yg k3)
  rw [<-e2] at this
  exact this
end Go.Abs
