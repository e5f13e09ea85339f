/-
  AbsRegion: a region whose order is the text's.
-/
import Derived.Test.YtncohicmiihjiaaGreatAbsTrace
set_option linter.unusedVariables false
set_option linter.unusedSimpArgs false
set_option linter.constructorNameAsVariable false
namespace Go.Abs
open Go
variable {O:Type} {RO:O->Loc->(Nat->Option Obj)->Prop} {P:Program} {G:List (Nat × Sm O)} {fI:List Nat} {ops:List Oper} {n:Nat}
theorem jX (hG:cS RO P G) {ρ:bX} {fp:Fp} {J J':AH O} {w:World} {e:Env} {a:Act} {op:Op} {ty:TypeId} {nid:Nat} {v:AV} (h:dX P G op ty e J nid two=some (v,J')) (he:aJ n ρ e a) (aC:Rel RO P ρ fp J w)
  (hn:aM op=true->nid<J.next/\ρ nid=none):ej RO P op ty a nid ρ fp J w v J':=by
 obtain ⟨v1,J1,h1,h2⟩:=Io hG h he aC hn
 simp only [two,Option.some.injEq,Prod.mk.injEq] at h1
 obtain ⟨rfl,rfl⟩:=h1
 exact h2
theorem wB {ρ:bX} {e:Env} {a:Act} {o:Oper} {b:Bool} (gI:∀ (i:Nat) (o:Oper) (d:Nat),ops[i]? = some o->o.dst=some d->d<n) (kA:a.tmps.size=n)
  (he:∀ j gV,o.guard=some (j,gV)->∀ oj,ops[j]? = some oj->∀ d,oj.dst=some d->aK ρ (e d) (a.tmps.getD d undef)) (h:cG ops e o=some b):Region.wanted o (yielded ops.toArray a.tmps)=b:=by
 unfold cG at h
 unfold Region.wanted
 split at h
 ·rename_i hg;rw [hg];simpa using h
 ·rename_i j gV hg
  rw [hg]
  simp only
  split at h
  ·cases h
  ·rename_i oj HZ
   split at h
   ·cases h
   ·rename_i d hd
    split at h
    ·rename_i t ht
     have hr:=he j gV hg oj HZ d hd
     rw [ht] at hr
     have hv:=hr.wH
     have bp:d<a.tmps.size:=by rw [kA];exact gI j oj d HZ hd
     have:a.tmps[d]? = some (.bool t):=by
      rw [<-hv];simp [Array.getD,bp]
     have hy:yielded ops.toArray a.tmps j=some t:=by
      simp [yielded,HZ,hd,this]
     rw [hy]
     cases h;cases t<;>cases gV<;>rfl
    ·rename_i ht
     have hr:=he j gV hg oj HZ d hd
     rw [ht] at hr
     obtain ⟨vs,hv,hvs⟩:=hr.yo
     have bp:d<a.tmps.size:=by rw [kA];exact gI j oj d HZ hd
     have:a.tmps[d]? = some (.tuple vs.toArray):=by
      rw [<-hv];simp [Array.getD,bp]
     have hy:yielded ops.toArray a.tmps j=none:=by
      simp [yielded,HZ,hd,this]
     rw [hy]
     cases h;rfl
    ·cases h
def Av (ops:List Oper) (p:Nat):Nat:=dY (ops.drop p)
theorem FX {p:Nat} {o:Oper} (h:ops[p]? = some o):Av ops p=(if aM o.op=true then 1 else 0)+Av ops (p+1):=by
 have bp:=(List.getElem?_eq_some_iff.1 h).1
 have hv:=(List.getElem?_eq_some_iff.1 h).2
 unfold Av dY
 rw [List.drop_eq_getElem_cons bp,hv,List.filter_cons]
 split<;>simp;omega
theorem kF {i d:Nat} {o:Oper} (h:ops[i]? = some o) (hd:o.dst=some d):d∈tP ops:=by
 simp only [tP,List.mem_filterMap]
 exact ⟨o,List.mem_of_getElem? h,hd⟩
theorem pH {a:Act} {dst:Option Nat} {t:Nat} (h:∀ d,dst=some d->t≠d) (u:Value):(a.put dst u).tmps.getD t undef=a.tmps.getD t undef:=by
 cases dst with
 |none=>rfl
 |some d=>
  have:=h d rfl
  simp only [Act.put,Array.getD_eq_getD_getElem?,Array.getElem?_setIfInBounds,Ne.symm this,if_false]
theorem aJ.weaken {ρ:bX} {e e':Env} {a:Act} (h:aJ n ρ e a) (hk:∀ t,e' t=e t ∨ e' t=.u):aJ n ρ e' a:=
 ⟨h.size,fun t=>by
  rcases hk t with q |q
  ·rw [q];exact h.get t
  ·rw [q];exact .u _⟩
theorem qY (hG:cS RO P G) (gI:∀ (i:Nat) (o:Oper) (d:Nat),ops[i]? = some o->o.dst=some d->d<n) {S:Nat->RS O} {V:Nat->AV} {base top:Nat}
  (htr:∀ p,p<ops.length->∃ o,ops[p]? = some o/\nQ P G ops o (S p) (S (p+1)) (V p)):
  ∀ (m p:Nat),p+m=ops.length->∀ (ρ:bX) (fp:Fp) (a:Act) (w:World),aJ n ρ (S p).e a->Rel RO P ρ fp (S p).J w->base<=(S p).nid->(S p).nid+Av ops p<=top->top<=(S p).J.next->(∀ b,(S p).nid<=b->b<top->ρ b=none)->
   ∀ (ro:Option Nat) (Q:Exit->Act->World->Prop),(∀ a' w' aQ fp',aJ n aQ (S ops.length).e a'->a'.defers=a.defers->(∀ t,t∉tP ops->a'.tmps.getD t undef=a.tmps.getD t undef)->aS RO P (· < base) ρ fp (S p).J w aQ fp' (S ops.length).J w'->Q .normal a' w')->wpOpsIn (Fw ro) 0 P ops.toArray Q (List.range' p m) a w
 |0,p,hp,ρ,fp,a,w,he,aC,h1,h2,h3,h4,ro,Q,hQ=>by
  have:p=ops.length:=by omega
  subst this
  exact hQ a w ρ fp he rfl (fun _ _=>rfl) (aS.refl aC)
 |m+1,p,hp,ρ,fp,a,w,he,aC,h1,h2,h3,h4,ro,Q,hQ=>by
  have bp:p<ops.length:=by omega
  obtain ⟨o,ho,hse,WD,jD⟩:=htr p bp
  have je:=FX ho
  have FK:(S (p+1)).nid+Av ops (p+1)=(S p).nid+Av ops p:=by rw [WD,je];split<;>omega
  have hge:(S p).nid<=(S (p+1)).nid:=by rw [WD];split<;>omega
  rw [List.range'_succ,wpOpsIn]
  have Rz:ops.toArray[p]? = some o:=by simpa using ho
  rw [Rz]
  simp only
  have hw:=fun b (hb:cG ops (S p).e o=some b)=>wB gI he.size (fun j gV _ oj _ d _=>he.get d) hb
  rcases jD with ⟨g1,g2⟩ |⟨g1,g2,g3⟩
  ·rw [hw true g1,if_pos rfl]
   have hOK:=jX hG g2 he aC (fun eT=>by
    rw [eT,if_pos rfl] at je
    exact ⟨by omega,h4 _ (Nat.le_refl _) (by omega)⟩)
   refine hOK ro o _ Q rfl rfl fun u w' aQ fp' hu wC _=>?_
   have lU:aJ n aQ (S (p+1)).e (a.put o.dst u):=
    aJ.weaken ((he.mono wC.le).put (fun d hd=>gI p o d ho hd) hu) hse
   refine qY (base:=base) (top:=top) hG gI htr m (p+1) (by omega) aQ fp' _ w' lU wC.rel (by omega) (by rw [FK];exact h2) (Nat.le_trans h3 wC.next) (fun b cK fv=>?_) ro Q fun a' vE vF vG k1 k2 kk k3=>?_
   ·rw [wC.ext b ⟨by omega,fun eT=>by rw [WD,eT,if_pos rfl] at cK;omega⟩]
    exact h4 b (by omega) fv
   ·refine hQ a' vE vF vG k1 (by rw [k2];cases o.dst<;>rfl) (fun t ht=>(kk t ht).trans (pH (fun d hd e=>ht (by rw [e];exact kF ho hd)) u)) ?_
    exact (wC.mono fun b hb=>⟨by omega,fun _=>by omega⟩).trans k3
  ·rw [hw false g1,if_neg (by simp)]
   refine ⟨fun _ _=>trivial,?_⟩
   have lU:aJ n ρ (S (p+1)).e (a.put o.dst undef):=by
    refine aJ.weaken ?_ hse
    rw [g2]
    exact he.put (fun d hd=>gI p o d ho hd) (.aB [] [] .nil)
   have WE:Rel RO P ρ fp (S (p+1)).J w:=by rw [g3];exact aC
   refine qY (base:=base) (top:=top) hG gI htr m (p+1) (by omega) ρ fp _ w lU WE (by omega) (by rw [FK];exact h2) (by rw [g3];exact h3) (fun b cK fv=>h4 b (by omega) fv) ro Q fun a' vE vF vG k1 k2 kk k3=>?_
   refine hQ a' vE vF vG k1 (by rw [k2];cases o.dst<;>rfl) (fun t ht=>(kk t ht).trans (pH (fun d hd e=>ht (by rw [e];exact kF ho hd)) undef)) ?_
   rw [g3] at k3
   exact k3
def PG (RO:O->Loc->(Nat->Option Obj)->Prop) (P:Program) (n:Nat) (c:Code) (J:AH O) (e:Env) (e':Env) (J':AH O):Prop:=
 ∀ (ρ:bX) (fp:Fp) (a:Act) (w:World),aJ n ρ e a->Rel RO P ρ fp J w->
  ∀ (ro:Option Nat) (Q:Exit->Act->World->Prop),(∀ a' w' aQ fp',aJ n aQ e' a'->a'.defers=a.defers->(∀ t,t∉aU c->a'.tmps.getD t undef=a.tmps.getD t undef)->aS RO P (· < J.next) ρ fp J w aQ fp' J' w'->Q .normal a' w')->c.wpIn (Fw ro) 0 P Q a w
theorem Rel.az {ρ:bX} {fp:Fp} {J:AH O} {w:World} (h:Rel RO P ρ fp J w) (k:Nat):Rel RO P ρ fp (J.az k) w:=
 ⟨fun b hb=>h.next b (by simp only [AH.az] at hb;omega),h.aa,h.dead,h.has,h.iH,h.fz⟩
theorem aS.ye {ρ aQ:bX} {fp fp':Fp} {J J':AH O} {w w':World} {k:Nat} (h:aS RO P (· < J.next) ρ fp (J.az k) w aQ fp' J' w'):aS RO P (· < J.next) ρ fp J w aQ fp' J' w':=
 ⟨h.rel,h.fr,h.grow,h.MJ,h.le,h.ext,fun b hb bp h0=>h.blank b hb (by simp only [AH.az];omega) h0,by have:=h.next;simp only [AH.az] at this;omega⟩
theorem wE (J:AH O) (k:Nat):(bif Nat.beq k 0 then J else J.az k)=J.az k:=by
 cases h:Nat.beq k 0 with
 |true=>have:=Nat.eq_of_beq_eq_true h;subst this;rfl
 |false=>rfl
theorem uB:Av ops 0=dY ops:=by simp [Av]
theorem qR (hG:cS RO P G) {R:Type} {qL:List (Nat × Nat × List (Nat × Ty))} {ord bf:List Nat} {ops:Array Oper} {id:Nat} {e:Env} {J:AH O} {K:Env->AH O->Option R} {r:R}
  (gI:∀ (i:Nat) (o:Oper) (d:Nat),ops.toList[i]? = some o->o.dst=some d->d<n) (h:pD P G false qL ops.toList ord bf e J K=some r):
  ∃ e' J',K e' J'=some r/\PG RO P n (.region id ops false) J e e' J':=by
 unfold pD at h
 simp only [cond_false,wE] at h
 obtain ⟨S,V,s',ht,h3⟩:=trace _ _ _ _ _ h
 have h1:=ht.tr.z
 have h2:=ht.tr.st
 have hf:=ht.fin
 rw [List.length_range] at h2 hf
 refine ⟨s'.e,s'.J,h3,fun ρ fp a w he aC ro Q hQ=>?_⟩
 ·refine wpIn_region ?_
  have e1:List.range ops.size=List.range' 0 ops.toList.length:=by rw [List.range_eq_range'];simp
  rw [e1]
  have e2:ops=ops.toList.toArray:=by simp
  have hb:(S 0).J=J.az (dY ops.toList):=h1.J
  have hn:(S 0).nid=J.next:=h1.nid
  have:=qY (n:=n) (ops:=ops.toList) hG gI (S:=S) (V:=V) (base:=J.next) (top:=J.next+dY ops.toList) (fun p hp=>by
   obtain ⟨i,o,g1,g2,g3⟩:=h2 p hp
   rw [List.getElem?_range hp] at g1;cases g1
   exact ⟨o,g2,g3⟩) ops.toList.length 0 (by omega) ρ fp a w (he.weaken h1.e) (by rw [hb];exact aC.az _) (by rw [hn];exact Nat.le_refl _) (by rw [hn,uB];exact Nat.le_refl _) (by rw [hb];exact Nat.le_refl _)
   (
    fun b cK _=>(aC.next b (by rw [hn] at cK;exact cK)).1) ro Q fun a' w' aQ fp' k1 k2 kk k3=>by
    rw [hb,<-hf.J] at k3
    exact hQ a' w' aQ fp' (k1.weaken hf.e) k2 kk (aS.ye k3)
  rw [<-e2] at this
  exact this
end Go.Abs
