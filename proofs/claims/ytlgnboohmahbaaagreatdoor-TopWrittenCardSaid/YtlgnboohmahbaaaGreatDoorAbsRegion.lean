/-
  AbsRegion: a region whose order is the text's.
-/
import Derived.Test.YtlgnboohmahbaaaGreatDoorAbsTrace
set_option linter.unusedVariables false
set_option linter.unusedSimpArgs false
set_option linter.constructorNameAsVariable false
namespace Go.Abs
open Go
variable {O:Type} {RO:O → Loc → (Nat → Option Obj) → Prop} {P:Program} {G:List (Nat × Sm O)} {kE:List Nat} {ops:List Oper} {n:Nat}
theorem wq (hG:dJ RO P G) {ρ:cl} {fp:Fp} {σ aj:AH O} {w:World} {e:Env} {a:Act} {op:Op} {ty:TypeId} {nid:Nat} {v:AV} (h:fe P G op ty e σ nid two=some (v,aj)) (he:aH n ρ e a) (aC:Rel RO P ρ fp σ w)
  (hn:aM op=true → nid<σ.next ∧ ρ nid=none):dR RO P op ty a nid ρ fp σ w v aj:=by
 obtain ⟨v1,aJ,h1,h2⟩:=aaB hG h he aC hn
 simp only [two,Option.some.injEq,Prod.mk.injEq] at h1
 obtain ⟨rfl,rfl⟩:=h1
 exact h2
theorem Pe {ρ:cl} {e:Env} {a:Act} {o:Oper} {b:Bool} (oN:∀ (i:Nat) (o:Oper) (d:Nat),ops[i]? = some o → o.dst=some d → d<n) (qX:a.tmps.size=n)
  (he:∀ j want,o.guard=some (j,want) → ∀ oj,ops[j]? = some oj → ∀ d,oj.dst=some d → aI ρ (e d) (a.tmps.getD d undef)) (h:dm ops e o=some b):Region.wanted o (yielded ops.toArray a.tmps)=b:=by
 unfold dm at h
 unfold Region.wanted
 split at h
 ·rename_i hg;rw [hg];simpa using h
 ·rename_i j want hg
  rw [hg]
  simp only
  split at h
  ·cases h
  ·rename_i oj hoj
   split at h
   ·cases h
   ·rename_i d hd
    split at h
    ·rename_i t ht
     have hr:=he j want hg oj hoj d hd
     rw [ht] at hr
     have hv:=hr.Pk
     have bS:d<a.tmps.size:=by rw [qX];exact oN j oj d hoj hd
     have:a.tmps[d]? = some (.bool t):=by
      rw [← hv];simp [Array.getD,bS]
     have hy:yielded ops.toArray a.tmps j=some t:=by
      simp [yielded,hoj,hd,this]
     rw [hy]
     cases h;cases t<;>cases want<;>rfl
    ·rename_i ht
     have hr:=he j want hg oj hoj d hd
     rw [ht] at hr
     obtain ⟨vs,hv,hvs⟩:=hr.QM
     have bS:d<a.tmps.size:=by rw [qX];exact oN j oj d hoj hd
     have:a.tmps[d]? = some (.tuple vs.toArray):=by
      rw [← hv];simp [Array.getD,bS]
     have hy:yielded ops.toArray a.tmps j=none:=by
      simp [yielded,hoj,hd,this]
     rw [hy]
     cases h;rfl
    ·cases h
def Tz (ops:List Oper) (p:Nat):Nat:=fM (ops.drop p)
theorem YN {p:Nat} {o:Oper} (h:ops[p]? = some o):Tz ops p=(if aM o.op=true then 1 else 0)+Tz ops (p+1):=by
 have bS:=(List.getElem?_eq_some_iff.1 h).1
 have hv:=(List.getElem?_eq_some_iff.1 h).2
 unfold Tz fM
 rw [List.drop_eq_getElem_cons bS,hv,List.filter_cons]
 split<;>simp;omega
theorem yd {i d:Nat} {o:Oper} (h:ops[i]? = some o) (hd:o.dst=some d):d∈dstsOf ops:=by
 simp only [dstsOf,List.mem_filterMap]
 exact ⟨o,List.mem_of_getElem? h,hd⟩
theorem wv {a:Act} {dst:Option Nat} {t:Nat} (h:∀ d,dst=some d → t≠d) (u:Value):(a.put dst u).tmps.getD t undef=a.tmps.getD t undef:=by
 cases dst with
 |none=>rfl
 |some d=>
  have:=h d rfl
  simp only [Act.put,Array.getD_eq_getD_getElem?,Array.getElem?_setIfInBounds,Ne.symm this,if_false]
theorem aH.weaken {ρ:cl} {e e':Env} {a:Act} (h:aH n ρ e a) (hk:∀ t,e' t=e t ∨ e' t=.u):aH n ρ e' a:=
 ⟨h.size,fun t=>by
  rcases hk t with q |q
  ·rw [q];exact h.get t
  ·rw [q];exact .u _⟩
theorem It (hG:dJ RO P G) (oN:∀ (i:Nat) (o:Oper) (d:Nat),ops[i]? = some o → o.dst=some d → d<n) {S:Nat → RS O} {V:Nat → AV} {base top:Nat}
  (htr:∀ p,p<ops.length → ∃ o,ops[p]? = some o ∧ Et P G ops o (S p) (S (p+1)) (V p)):
  ∀ (m p:Nat),p+m=ops.length → ∀ (ρ:cl) (fp:Fp) (a:Act) (w:World),aH n ρ (S p).e a → Rel RO P ρ fp (S p).σ w → base ≤ (S p).nid → (S p).nid+Tz ops p ≤ top → top ≤ (S p).σ.next → (∀ b,(S p).nid ≤ b → b<top → ρ b=none) →
   ∀ (ro:Option Nat) (Q:Exit → Act → World → Prop),(∀ a' w' aR fp',aH n aR (S ops.length).e a' → a'.defers=a.defers → (∀ t,t∉dstsOf ops → a'.tmps.getD t undef=a.tmps.getD t undef) → aO RO P (· < base) ρ fp (S p).σ w aR fp' (S ops.length).σ w' → Q .normal a' w') → wpOpsIn (Fw ro) 0 P ops.toArray Q (List.range' p m) a w
 |0,p,hp,ρ,fp,a,w,he,aC,h1,h2,h3,h4,ro,Q,hQ=>by
  have:p=ops.length:=by omega
  subst this
  exact hQ a w ρ fp he rfl (fun _ _=>rfl) (aO.refl aC)
 |m+1,p,hp,ρ,fp,a,w,he,aC,h1,h2,h3,h4,ro,Q,hQ=>by
  have bS:p<ops.length:=by omega
  obtain ⟨o,ho,hse,hsn,lP⟩:=htr p bS
  have ala:=YN ho
  have aat:(S (p+1)).nid+Tz ops (p+1)=(S p).nid+Tz ops p:=by rw [hsn,ala];split<;>omega
  have Vg:(S p).nid ≤ (S (p+1)).nid:=by rw [hsn];split<;>omega
  rw [List.range'_succ,wpOpsIn]
  have hoa:ops.toArray[p]? = some o:=by simpa using ho
  rw [hoa]
  simp only
  have hw:=fun b (hb:dm ops (S p).e o=some b)=>Pe oN he.size (fun j want _ oj _ d _=>he.get d) hb
  rcases lP with ⟨g1,g2⟩ |⟨g1,g2,g3⟩
  ·rw [hw true g1,if_pos rfl]
   have hOK:=wq hG g2 he aC (fun tM=>by
    rw [tM,if_pos rfl] at ala
    exact ⟨by omega,h4 _ (Nat.le_refl _) (by omega)⟩)
   refine hOK ro o _ Q rfl rfl fun u w' aR fp' hu N9 _=>?_
   have Yn:aH n aR (S (p+1)).e (a.put o.dst u):=
    aH.weaken ((he.mono N9.le).put (fun d hd=>oN p o d ho hd) hu) hse
   refine It (base:=base) (top:=top) hG oN htr m (p+1) (by omega) aR fp' _ w' Yn N9.rel (by omega) (by rw [aat];exact h2) (Nat.le_trans h3 N9.next) (fun b hb1 Dm=>?_) ro Q fun a' Oi Oj Ol k1 k2 kk k3=>?_
   ·rw [N9.ext b ⟨by omega,fun tM=>by rw [hsn,tM,if_pos rfl] at hb1;omega⟩]
    exact h4 b (by omega) Dm
   ·refine hQ a' Oi Oj Ol k1 (by rw [k2];cases o.dst<;>rfl) (fun t ht=>(kk t ht).trans (wv (fun d hd e=>ht (by rw [e];exact yd ho hd)) u)) ?_
    exact (N9.mono fun b hb=>⟨by omega,fun _=>by omega⟩).trans k3
  ·rw [hw false g1,if_neg (by simp)]
   refine ⟨fun _ _=>trivial,?_⟩
   have Yn:aH n ρ (S (p+1)).e (a.put o.dst undef):=by
    refine aH.weaken ?_ hse
    rw [g2]
    exact he.put (fun d hd=>oN p o d ho hd) (.aS [] [] .nil)
   have alb:Rel RO P ρ fp (S (p+1)).σ w:=by rw [g3];exact aC
   refine It (base:=base) (top:=top) hG oN htr m (p+1) (by omega) ρ fp _ w Yn alb (by omega) (by rw [aat];exact h2) (by rw [g3];exact h3) (fun b hb1 Dm=>h4 b (by omega) Dm) ro Q fun a' Oi Oj Ol k1 k2 kk k3=>?_
   refine hQ a' Oi Oj Ol k1 (by rw [k2];cases o.dst<;>rfl) (fun t ht=>(kk t ht).trans (wv (fun d hd e=>ht (by rw [e];exact yd ho hd)) undef)) ?_
   rw [g3] at k3
   exact k3
def agM (RO:O → Loc → (Nat → Option Obj) → Prop) (P:Program) (n:Nat) (c:Code) (σ:AH O) (e:Env) (e':Env) (aj:AH O):Prop:=
 ∀ (ρ:cl) (fp:Fp) (a:Act) (w:World),aH n ρ e a → Rel RO P ρ fp σ w →
  ∀ (ro:Option Nat) (Q:Exit → Act → World → Prop),(∀ a' w' aR fp',aH n aR e' a' → a'.defers=a.defers → (∀ t,t∉aF c → a'.tmps.getD t undef=a.tmps.getD t undef) → aO RO P (· < σ.next) ρ fp σ w aR fp' aj w' → Q .normal a' w') → c.wpIn (Fw ro) 0 P Q a w
theorem Rel.bump {ρ:cl} {fp:Fp} {σ:AH O} {w:World} (h:Rel RO P ρ fp σ w) (k:Nat):Rel RO P ρ fp (σ.bump k) w:=
 ⟨fun b hb=>h.next b (by simp only [AH.bump] at hb;omega),h.ai,h.dead,h.has,h.nT,h.fz⟩
theorem aO.QF {ρ aR:cl} {fp fp':Fp} {σ aj:AH O} {w w':World} {k:Nat} (h:aO RO P (· < σ.next) ρ fp (σ.bump k) w aR fp' aj w'):aO RO P (· < σ.next) ρ fp σ w aR fp' aj w':=
 ⟨h.rel,h.fr,h.grow,h.gro,h.le,h.ext,fun b hb bS h0=>h.blank b hb (by simp only [AH.bump];omega) h0,by have:=h.next;simp only [AH.bump] at this;omega⟩
theorem Pg (σ:AH O) (k:Nat):(bif Nat.beq k 0 then σ else σ.bump k)=σ.bump k:=by
 cases h:Nat.beq k 0 with
 |true=>have:=Nat.eq_of_beq_eq_true h;subst this;rfl
 |false=>rfl
theorem LU:Tz ops 0=fM ops:=by simp [Tz]
theorem Ie (hG:dJ RO P G) {R:Type} {H8:List (Nat × Nat × List (Nat × Ty))} {ord bf:List Nat} {ops:Array Oper} {id:Nat} {e:Env} {σ:AH O} {K:Env → AH O → Option R} {r:R}
  (oN:∀ (i:Nat) (o:Oper) (d:Nat),ops.toList[i]? = some o → o.dst=some d → d<n) (h:Gv P G false H8 ops.toList ord bf e σ K=some r):
  ∃ e' aj,K e' aj=some r ∧ agM RO P n (.region id ops false) σ e e' aj:=by
 unfold Gv at h
 simp only [cond_false,Pg] at h
 obtain ⟨S,V,s',ht,h3⟩:=trace _ _ _ _ _ h
 have h1:=ht.tr.z
 have h2:=ht.tr.st
 have hf:=ht.fin
 rw [List.length_range] at h2 hf
 refine ⟨s'.e,s'.σ,h3,fun ρ fp a w he aC ro Q hQ=>?_⟩
 ·refine wpIn_region ?_
  have e1:List.range ops.size=List.range' 0 ops.toList.length:=by rw [List.range_eq_range'];simp
  rw [e1]
  have e2:ops=ops.toList.toArray:=by simp
  have hb:(S 0).σ=σ.bump (fM ops.toList):=h1.σ
  have hn:(S 0).nid=σ.next:=h1.nid
  have:=It (n:=n) (ops:=ops.toList) hG oN (S:=S) (V:=V) (base:=σ.next) (top:=σ.next+fM ops.toList) (fun p hp=>by
   obtain ⟨i,o,g1,g2,g3⟩:=h2 p hp
   rw [List.getElem?_range hp] at g1;cases g1
   exact ⟨o,g2,g3⟩) ops.toList.length 0 (by omega) ρ fp a w (he.weaken h1.e) (by rw [hb];exact aC.bump _) (by rw [hn];exact Nat.le_refl _) (by rw [hn,LU];exact Nat.le_refl _) (by rw [hb];exact Nat.le_refl _)
   (
    fun b hb1 _=>(aC.next b (by rw [hn] at hb1;exact hb1)).1) ro Q fun a' w' aR fp' k1 k2 kk k3=>by
    rw [hb,← hf.σ] at k3
    exact hQ a' w' aR fp' (k1.weaken hf.e) k2 kk (aO.QF k3)
  rw [← e2] at this
  exact this
end Go.Abs
