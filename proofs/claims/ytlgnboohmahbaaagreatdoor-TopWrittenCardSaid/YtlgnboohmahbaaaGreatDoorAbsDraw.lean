/-
  AbsDraw: a region whose order is drawn.
-/
import Derived.Test.YtlgnboohmahbaaaGreatDoorAbsDraw4
set_option linter.unusedVariables false
set_option linter.unusedSimpArgs false
set_option linter.constructorNameAsVariable false
namespace Go.Abs
open Go
variable {O:Type} {RO:O → Loc → (Nat → Option Obj) → Prop} {P:Program} {G:List (Nat × Sm O)} {n:Nat}
section step
variable {ops:List Oper} {l:List Nat} {S:Nat → RS O} {V:Nat → AV} {a0:Act} {yc:cl} {fp0:Fp} {gJ:AH O} {w0:World} {listed:Array Bool}
theorem SS {σ aj:AH O} {b:jJ} {o m:Nat} {cs:List AV} (h:σ.O8 b o m=some cs) (hw:∀ b x,σ.ai b=some x → aj.ai b=some x):aj.O8 b o m=some cs:=by
 cases b with
 |f=>exact h
 |n b=>
  simp only [AH.O8] at h ⊢
  split at h
  ·rename_i hb;rw [hw _ _ hb];exact h
  ·cases h
theorem ado {σ aj:AH O} {b:jJ} {o:Nat} {v:AV} (h:σ.ld b o=some v) (hw:∀ b x,σ.ai b=some x → aj.ai b=some x):aj.ld b o=some v:=by
 cases b with
 |f=>exact h
 |n b=>
  simp only [AH.ld] at h ⊢
  split at h
  ·rename_i hb;rw [hw _ _ hb];exact h
  ·cases h
theorem Yk {σ aj:AH O} {a:SA} {m es:Nat} {cs:List AV} (h:σ.bC a m es=some cs) (hw:∀ b x,σ.ai b=some x → aj.ai b=some x):aj.bC a m es=some cs:=by
 cases a with
 |loc b o e=>
  simp only [AH.bC] at h ⊢
  exact SS h hw
 |ar b o e=>
  simp only [AH.bC] at h ⊢
  exact SS h hw
 |nil=>exact h
 |z=>exact h
theorem Kept.wide {o:Oper} {s:RS O} {v:AV} {σ aj:AH O} (h:Kept o s v σ) (Gw:∀ t t' x a m,o.op=.convert t t' x → ev s.e x=.sl a m → ∃ cs,s.σ.bC a m 1=some cs) (hw:∀ b x,σ.ai b=some x → aj.ai b=some x):Kept o s v aj:=by
 refine ⟨fun t a e=>?_,fun t t' x e a m hx=>?_⟩
 ·obtain ⟨b,f,h1,h2⟩:=h.1 t a e
  refine ⟨b,f,h1,fun k c hk=>?_⟩
  exact ado (h2 k c hk) hw
 ·obtain ⟨cs,Gj⟩:=Gw t t' x a m e hx
  have:=h.2 t t' x e a m hx
  rw [Gj] at this ⊢
  exact Yk this hw
theorem VP {t t' ty:TypeId} {x:Operand} {e:Env} {σ aj:AH O} {nid:Nat} {v:AV} (h:fe P G (.convert t t' x) ty e σ nid two=some (v,aj)) {a:SA} {m:Nat} (hx:ev e x=.sl a m):∃ cs,σ.bC a m 1=some cs:=by
 simp only [fe,hx] at h
 split at h
 ·split at h
  ·obtain ⟨cs,Gj,_⟩:=Option.bind_eq_some_iff.1 h
   exact ⟨cs,Gj⟩
  ·cases h
 ·cases h
theorem again {o:Oper} {s:RS O} {v:AV} {aj aP:AH O} (h:fe P G o.op o.type s.e s.σ s.nid two=some (v,aj)) (hl:de o.op=true) (hk:Kept o s v aP):fe P G o.op o.type s.e aP s.nid two=some (v,aP):=by
 cases Gw:o.op<;>rw [Gw] at hl<;>first |(simp [de] at hl;done) |skip
 case load t x=>
  rw [Gw] at h
  obtain ⟨_,b,f,h1,_,h3⟩:=EZ h
  obtain ⟨b',f',h1',h2⟩:=hk.1 t x Gw
  rw [h1] at h1';cases h1'
  exact h3 aP s.nid h2
 case convert t t' x=>
  rw [Gw] at h
  exact (Lx h).2 aP s.nid fun a m hx=>hk.2 t t' x Gw a m hx
theorem Yl {o:Oper} {s:RS O} {v:AV} {aj:AH O} (h:fe P G o.op o.type s.e s.σ s.nid two=some (v,aj)) (hl:de o.op=true):Kept o s v s.σ:=by
 refine ⟨fun t a e=>?_,fun _ _ _ _ _ _ _=>rfl⟩
 rw [e] at h
 obtain ⟨_,b,f,h1,h2,_⟩:=EZ h
 exact ⟨b,f,h1,h2⟩
def over (σ cB:AH O):AH O:=⟨fun b=>match σ.ai b with |some x=>some x |none=>cB.ai b,cB.next⟩
def Inv (RO:O → Loc → (Nat → Option Obj) → Prop) (P:Program) (ops:List Oper) (l:List Nat) (S:Nat → RS O) (n:Nat) (a0:Act) (yc:cl) (fp0:Fp) (gJ:AH O) (w0:World) (listed:Array Bool) (a:Act) (w:World):Prop:=
 ∃ ρ fp cB j,Ym ops l S n a0 listed a ρ ∧ Ah RO P ops l S yc fp0 gJ w0 listed w ρ fp cB j
theorem Inv.next (hG:dJ RO P G) (fx:∀ p,p<l.length → ∃ i o,At ops l p i o) (hr:JB P G ops l S V) (oN:∀ (i:Nat) (o:Oper) (d:Nat),ops[i]? = some o → o.dst=some d → d<n) {a:Act} {w:World} (h:Inv RO P ops l S n a0 yc fp0 gJ w0 listed a w)
  {i:Nat} {o:Oper} (ho:ops[i]? = some o) (hnd:¬ rJ listed i) (SU:∀ e∈o.after,Region.binds .any e=true → rJ listed e.on) {Q:Exit → Act → World → Prop} {K:Act → World → Prop}
  (hK:∀ a w,Inv RO P ops l S n a0 yc fp0 gJ w0 (listed.setIfInBounds i true) a w → K a w) (ro:Option Nat):wpOpIn (Fw ro) 0 P ops.toArray Q i K a w:=by
 obtain ⟨ρ,fp,cB,j,hE,hH⟩:=h
 obtain ⟨p,hp⟩:=hr.Vc.pos i (List.getElem?_eq_some_iff.1 ho).1
 have ha:At ops l p i o:=⟨hp,ho⟩
 have hoa:ops.toArray[i]? = some o:=by simpa using ho
 unfold wpOpIn
 rw [hoa]
 simp only
 have hw:=fun b (hb:dm ops (S p).e o=some b)=>Pe (ops:=ops) oN hE.size (fun j' want hg oj hoj d hd=>hE.Xf fx hr ha hnd SU (t:=d) (by
  simp only [looks,hg,hoj,hd,List.mem_append]
  right;simp)) hb
 let e':Env:=fun t=>if t∈looks ops o then (S p).e t else .u
 have Yn:aH n ρ e' a:=⟨hE.size,fun t=>by
  show aI ρ (if t∈looks ops o then (S p).e t else .u) _
  split
  ·rename_i ht;exact hE.Xf fx hr ha hnd SU ht
  ·exact .u _⟩
 have hcg:∀ {R:Type} (σ:AH O) (K:AV → AH O → Option R),fe P G o.op o.type (S p).e σ (S p).nid K=fe P G o.op o.type e' σ (S p).nid K:=fun σ K=>Yo fun x hx=>by
  cases x with
  |tmp t=>
   have:t∈looks ops o:=by
    simp only [looks,List.mem_append,List.mem_filterMap]
    exact .inl ⟨.tmp t,hx,rfl⟩
   show (S p).e t=if t∈looks ops o then (S p).e t else .u
   rw [if_pos this]
  |const v=>rfl
  |global g=>rfl
  |func f=>rfl
 rcases (hr.st p i o ha).2.2 with ⟨g1,g2⟩ |⟨g1,g2,g3⟩
 ·rw [hw true g1,if_pos rfl]
  cases ht:turns o.op with
  |true=>
   have k1:=(hH.turn (aR:=ρ) (fp':=fp) (w':=w) fx hr hE.closed hE.SV ha hnd SU ht g1).1
   have k2:=(hH.turn (aR:=ρ) (fp':=fp) (w':=w) fx hr hE.closed hE.SV ha hnd SU ht g1).2.1
   rw [hcg] at g2
   refine wq hG g2 Yn k1 k2 ro o K Q rfl rfl fun u w' aR fp' hu N9 _=>hK _ _ ?_
   obtain ⟨Vd,SW,k3⟩:=(hH.turn (aR:=aR) (fp':=fp') (w':=w') fx hr hE.closed hE.SV ha hnd SU ht g1).2.2 N9
   exact ⟨aR,Vd,SW,p+1,hE.next fx hr oN ha hnd SU N9.le hu,k3⟩
  |false=>
   have hnt:¬ (turns o.op=true ∧ dm ops (S p).e o=some true):=fun e=>by rw [ht] at e;cases e.1
   cases tM:aM o.op with
   |true=>
    obtain ⟨el,cs,h1,h2⟩:=Pf g2 ht tM
    have Z2:=hH.ge fx hr hE.closed hE.SV ha hnd (.inr tM)
    have bS:(S p).nid<cB.next:=by
     have:=hr.pO fx ha.lt (Nat.le_refl _) ha tM
     have:=hH.top
     rw [hH.nx];omega
    have h3:=h2 cB
    rw [hcg] at h3
    refine wq hG h3 Yn hH.post.rel (fun _=>⟨bS,hH.nr p i o ha hnd tM⟩) ro o K Q rfl rfl fun u w' aR fp' hu N9 _=>hK _ _ ?_
    exact ⟨aR,fp',_,j,hE.next fx hr oN ha hnd SU N9.le hu,hH.alloc fx hr hE.closed hE.SV ha hnd ⟨tM,ht,g1,rfl,h1,el,cs,rfl⟩ N9⟩
   |false=>
    have hna:∀ b x,¬ QB ops S p o b x:=fun b x hx=>by have:=hx.al;rw [tM] at this;cases this
    have fin:fe P G o.op o.type (S p).e cB (S p).nid two=some (V p,cB) → o.wpIn (Fw ro) 0 P a w K Q:=fun h3=>by
     rw [hcg] at h3
     refine wq hG h3 Yn hH.post.rel (fun e=>by rw [tM] at e;cases e) ro o K Q rfl rfl fun u w' aR fp' hu N9 _=>hK _ _ ?_
     exact ⟨aR,fp',_,j,hE.next fx hr oN ha hnd SU N9.le hu,hH.same fx hr hE.SV ha hnt hna N9⟩
    cases hl:de o.op with
    |false=>exact fin ((SX g2 ht tM hl).2 cB _)
    |true=>
     have hsl:∀ t t' x a m,o.op=.convert t t' x → ev (S p).e x=.sl a m → ∃ cs,(S p).σ.bC a m 1=some cs:=fun t t' x a m Gw hx=>by
      rw [Gw] at g2
      exact VP g2 hx
     rcases Nat.lt_or_ge p j with hpj |Z2
     ·rcases hH.jz with hj |⟨k,i',o',hj,hb,hd,Km,ao'⟩
      ·omega
      ·have hpk:p≠k:=fun e=>by
        subst e
        obtain ⟨rfl,rfl⟩:=ha.fn hb
        exact hnd hd
       have hnb:bit ((Gu ops).getD i' 0) i=false:=by
        cases hbb:bit ((Gu ops).getD i' 0) i with
        |false=>rfl
        |true=>exact absurd (hE.closed.kE (fun i hi=>rJ.lt hE.SV hi) i' i hd hbb) hnd
       have hk:=hr.kp p k i o i' o' (by omega) ha hb hl g1 ao' Km hnb
       rw [← hj] at hk
       refine fin (again g2 hl (hk.wide hsl fun b x hx=>?_))
       rcases hH.od b with g |⟨q,i2,o2,y,q1,q2,q3,q4⟩
       ·rw [g];exact hx
       ·rw [hH.bl b (by rw [q4.id];exact hr.oO fx q1 (Nat.le_of_lt q2.lt)) (by rw [q4.id];exact hr.pO fx q2.lt (Nat.le_refl _) q2 q4.al)] at hx
        cases hx
     ·
      have hq:∀ q i' o',j ≤ q → q<p → At ops l q i' o' → ¬ (turns o'.op=true ∧ dm ops (S q).e o'=some true):=by
       intro q i' o' q1 q2 q3 q4
       refine hH.late q i' o' q1 q3 ?_ q4
       have hpp:=hr.Vc.pair q p i' i o' o q2 q3 ha
       rcases hpp.or with g |⟨_,g4,_⟩
       ·exact Ia hE.closed (fun i hi=>rJ.lt hE.SV hi) ha.2 SU g
       ·have:=(g4 q4.1).2;rw [hl] at this;cases this
      have Dk:=Nat.le_of_lt ha.lt
      have aan:∀ b,ρ b≠none → (over (S p).σ cB).ai b=cB.ai b:=fun b hb=>by
       show (match (S p).σ.ai b with |some x=>some x |none=>cB.ai b)=_
       cases hx:(S p).σ.ai b with
       |none=>rfl
       |some x=>
        refine (hH.sub fx hr Z2 Dk hq hx fun q i' o' q1 q2 q3 q4 q5 q6=>?_).symm
        by_cases hdd:rJ listed i'
        ·exact hdd
        ·rw [q4,hH.nr q i' o' q3 hdd q5] at hb
         exact absurd rfl hb
      have QC:∀ b x,(S p).σ.ai b=some x → (over (S p).σ cB).ai b=some x:=fun b x hx=>by
       show (match (S p).σ.ai b with |some x=>some x |none=>cB.ai b)=_
       rw [hx]
      have hnx:∀ b,cB.next ≤ b → (over (S p).σ cB).ai b=none:=fun b hb=>by
       show (match (S p).σ.ai b with |some x=>some x |none=>cB.ai b)=_
       cases hx:(S p).σ.ai b with
       |none=>exact (hH.post.rel.next b hb).2
       |some x=>
        obtain ⟨e1,_,_⟩:=hr.heap fx Z2 Dk hq
        rcases e1 b with g |⟨q,i2,o2,y,q1,q2,q3,q4,q5⟩
        ·rcases hH.od b with g' | ⟨q,i2,o2,y,q1,q2,q3,q4⟩
         ·rw [← g,hx,(hH.post.rel.next b hb).2] at g';cases g'
         ·have:=hr.pO fx q2.lt (Nat.le_refl _) q2 q4.al
          have:=hH.top
          rw [hH.nx,q4.id] at hb;omega
        ·have:=hr.pO fx q3.lt (Nat.le_refl _) q3 q4.al
         have:=hH.top
         rw [hH.nx,q4.id] at hb;omega
      have h3:=again g2 hl ((Yl g2 hl).wide hsl QC)
      rw [hcg] at h3
      refine wq hG h3 Yn (hH.post.rel.VQ (Z3:=over (S p).σ cB) rfl aan hnx) (fun e=>by rw [tM] at e;cases e) ro o K Q rfl rfl fun u w' aR fp' hu N9 _=>hK _ _ ?_
      have hgh:∀ b,aR b≠none → (over (S p).σ cB).ai b=cB.ai b:=fun b hb=>by
       rcases Nat.lt_or_ge b cB.next with hh |hh
       ·refine aan b ?_
        rw [← N9.ext b ⟨hh,fun e=>by rw [tM] at e;cases e⟩];exact hb
       ·rw [hnx b hh,(hH.post.rel.next b hh).2]
      have W7:aO RO P (fun b=>b<cB.next ∧ (aM o.op=true → b≠(S p).nid)) ρ fp cB w aR fp' cB w':=aO.VQ (Z3:=over (S p).σ cB) rfl aan hgh N9 fun b hb=>(hH.post.rel.next b hb).2
      exact ⟨aR,fp',_,j,hE.next fx hr oN ha hnd SU N9.le hu,hH.same fx hr hE.SV ha hnt hna W7⟩
 ·rw [hw false g1,if_neg (by simp)]
  have hnt:¬ (turns o.op=true ∧ dm ops (S p).e o=some true):=fun e=>by rw [g1] at e;cases e.2
  refine ⟨fun _ _=>trivial,?_⟩
  exact hK _ _ ⟨ρ,fp,cB,j,hE.next fx hr oN ha hnd SU (cl.le_refl _) (by rw [g2];exact .aS [] [] .nil),hH.same fx hr hE.SV ha hnt (fun b x hx=>by have:=hx.wt;rw [g1] at this;cases this) (aO.refl hH.post.rel)⟩
theorem Yp (ro:Option Nat) (hG:dJ RO P G) (fx:∀ p,p<l.length → ∃ i o,At ops l p i o) (hr:JB P G ops l S V) (oN:∀ (i:Nat) (o:Oper) (d:Nat),ops[i]? = some o → o.dst=some d → d<n) {Q:Exit → Act → World → Prop}
  (hQ:∀ a w listed,listed.size=ops.length → (∀ i,i<ops.length → rJ listed i) → Inv RO P ops l S n a0 yc fp0 gJ w0 listed a w → Q .normal a w):
  ∀ (fuel:Nat) (listed:Array Bool) (a:Act) (w:World),ops.length ≤ listed.toList.count true+fuel → Inv RO P ops l S n a0 yc fp0 gJ w0 listed a w → wpAnyIn (Fw ro) 0 P .any ops.toArray Q fuel listed a w:=by
 have done:∀ (listed:Array Bool) (a:Act) (w:World),Inv RO P ops l S n a0 yc fp0 gJ w0 listed a w → Region.ready .any ops.toArray listed=[] → Q .normal a w:=by
  intro listed a w h hn
  have qX:listed.size=ops.length:=by obtain ⟨_,_,_,_,hE,_⟩:=h;exact hE.SV
  refine hQ a w listed qX ?_ h
  have all:∀ (p i:Nat),l[p]? = some i → rJ listed i:=by
   intro p
   induction p using Nat.strongRecOn with
   |_ p ih=>
    intro i hp
    have bS:p<l.length:=(List.getElem?_eq_some_iff.1 hp).1
    obtain ⟨i',o,ha⟩:=fx p bS
    have:i=i':=by have:=ha.1;rw [hp] at this;cases this;rfl
    subst this
    rcases Bool.eq_false_or_eq_true (listed.getD i false) with hd |hd
    ·exact hd
    ·exfalso
     have ahT:i<listed.size:=by rw [qX];exact (List.getElem?_eq_some_iff.1 ha.2).1
     have:i∈Region.ready .any ops.toArray listed:=by
      rw [mem_ready]
      refine ⟨by simpa [ahT] using hd,o,by simpa using ha.2,fun e he hb=>?_⟩
      obtain ⟨q,h1,h2⟩:=hr.Vc.apb p i o ha e he hb
      exact ih q h1 e.on h2
     rw [hn] at this;cases this
  intro i hi
  obtain ⟨p,hp⟩:=hr.Vc.pos i hi
  exact all p i hp
 intro fuel
 induction fuel with
 |zero=>
  intro listed a w hc h
  have qX:listed.size=ops.length:=by obtain ⟨_,_,_,_,hE,_⟩:=h;exact hE.SV
  have hall:Region.ready .any ops.toArray listed=[]:=by
   have h1:listed.toList.count true=listed.toList.length:=by
    have:=List.count_le_length (a:=true) (l:=listed.toList)
    simp only [Array.length_toList] at this ⊢
    omega
   rw [List.count_eq_length] at h1
   apply List.eq_nil_iff_forall_not_mem.2
   intro i hi
   rw [mem_ready] at hi
   have bS:i<listed.size:=by
    rcases Nat.lt_or_ge i listed.size with hh |hh
    ·exact hh
    ·have:=hi.1;simp [Array.getElem?_eq_none hh] at this
   have:=h1 listed[i] (by simp)
   have h2:=hi.1
   simp [bS] at h2
   rw [h2] at this;cases this
  exact ⟨hall,done listed a w h hall⟩
 |succ fuel ih=>
  intro listed a w hc h
  have qX:listed.size=ops.length:=by obtain ⟨_,_,_,_,hE,_⟩:=h;exact hE.SV
  refine ⟨done listed a w h,fun i hi=>?_⟩
  rw [mem_ready] at hi
  obtain ⟨h1,o,h2,h3⟩:=hi
  have bS:i<listed.size:=by
   rcases Nat.lt_or_ge i listed.size with hh |hh
   ·exact hh
   ·simp [Array.getElem?_eq_none hh] at h1
  have hv:listed[i]=false:=by simpa [bS] using h1
  refine h.next hG fx hr oN (by simpa using h2) (by simp [rJ,bS,hv]) h3 (fun a' w' h'=>ih _ a' w' ?_ h') ro
  have:(listed.setIfInBounds i true).toList.count true=listed.toList.count true+1:=by
   rw [Array.toList_setIfInBounds,List.count_set (by simpa using bS)]
   simp [hv]
  omega
end step
theorem Gx (hG:dJ RO P G) (hm:P.follows .mixedOrders=true) {R:Type} {H8:List (Nat × Nat × List (Nat × Ty))} {l bf:List Nat} {ops:Array Oper} {id:Nat} {e:Env} {σ:AH O} {K:Env → AH O → Option R} {r:R}
  (oN:∀ (i:Nat) (o:Oper) (d:Nat),ops.toList[i]? = some o → o.dst=some d → d<n) (h:Gv P G true H8 ops.toList l bf e σ K=some r):
  ∃ e' aj,K e' aj=some r ∧ agM RO P n (.region id ops true) σ e e' aj:=by
 unfold Gv at h
 simp only [cond_true,Pg] at h
 obtain ⟨H7,h⟩:=aD h
 rw [Bool.and_eq_true] at H7
 obtain rfl:=QD H7.1
 have hs:=QE H7.2
 obtain ⟨S,V,s',ht,h3⟩:=trace _ _ _ _ _ h
 have h1:=ht.tr.z
 have hf:=ht.fin
 have fx:∀ p,p<l.length → ∃ i o,At ops.toList l p i o:=fun p hp=>by
  obtain ⟨i,o,g1,g2,_⟩:=ht.tr.st p hp
  exact ⟨i,o,g1,g2⟩
 have hr:JB P G ops.toList l S V:=⟨hs,fun p i o ha=>by
  obtain ⟨i',o',g1,g2,g3⟩:=ht.tr.st p ha.lt
  obtain ⟨rfl,rfl⟩:=ha.fn ⟨g1,g2⟩
  exact g3,fun q p i o i' o' g1 g2 g3 g4 g5 g6 g7 g8=>ht.tr.kp rfl q p i o i' o' g1 g2.1 g2.2 g3.1 g3.2 g4 g5 g6 g7 g8⟩
 have hb:(S 0).σ=σ.bump (fM ops.toList):=h1.σ
 have Ve:(S 0).nid=σ.next:=h1.nid
 have ahU:(S l.length).nid=σ.next+fM ops.toList:=by
  rw [← hf.nid,ht.nid]
  have:=Ph (ops:=ops.toList) l 0 σ.next
  rw [Nat.zero_add] at this
  show tL ops.toList l σ.next=_
  rw [this,hs.cnt,Nat.add_comm]
 refine ⟨s'.e,s'.σ,h3,fun ρ fp a w he aC ro Q hQ=>?_⟩
 refine wpIn_region_any hm ?_
 have e2:ops=ops.toList.toArray:=by simp
 have main:=Yp ro (n:=n) (RO:=RO) (a0:=a) (yc:=ρ) (fp0:=fp) (gJ:=σ) (w0:=w) hG fx hr oN (Q:=Q) (fun a' w' listed qX hall apc=>?_) ops.size (Array.replicate ops.size false) a w.drew (by simp) ?_
 ·rw [← e2] at main
  exact main
 ·obtain ⟨aR,fp',cB,j,hE,hH⟩:=apc
  have hq:∀ q i' o',j ≤ q → q<l.length → At ops.toList l q i' o' → ¬ (turns o'.op=true ∧ dm ops.toList (S q).e o'=some true):=fun q i' o' q1 _ q3 q4=>
   hH.late q i' o' q1 q3 (hall i' (List.getElem?_eq_some_iff.1 q3.2).1) q4
  obtain ⟨e1,_,e3⟩:=hr.heap fx hH.jle (Nat.le_refl _) hq
  have dP:cB=s'.σ:=by
   rw [hf.σ]
   have Kn:∀ b,cB.ai b=(S l.length).σ.ai b:=fun b=>by
    cases hx:(S l.length).σ.ai b with
    |some x=>exact hH.sub fx hr hH.jle (Nat.le_refl _) hq hx fun q i' o' _ _ q3 _ _ _=>hall i' (List.getElem?_eq_some_iff.1 q3.2).1
    |none=>
     rcases hH.od b with g |⟨q,i2,o2,y,q1,q2,q3,q4⟩
     ·rw [g]
      rcases e1 b with g' | ⟨q,i2,o2,y,q1,q2,q3,q4,q5⟩
      ·rw [← g',hx]
      ·rw [hx] at q5;cases q5
     ·obtain ⟨_,e2',_⟩:=hr.heap fx hH.jle (Nat.le_refl _) hq
      rw [e2' q i2 o2 b y q1 q2.lt q2 q4] at hx;cases hx
   have hnx:cB.next=(S l.length).σ.next:=by rw [hH.nx,e3]
   cases cB;cases hS:(S l.length).σ
   rw [hS] at Kn hnx
   simp only at hnx
   subst hnx
   congr
   funext b;exact Kn b
  have hp:=hH.post
  rw [Ve,dP] at hp
  refine hQ a' w' aR fp' ⟨hE.size,fun t=>?_⟩ hE.defers (fun t Km=>hE.out t Km) hp
  have:=hE.cf t l.length (Nat.le_refl _) (fun q i o _ q2 _=>hall i (List.getElem?_eq_some_iff.1 q2.2).1) (fun q i o q1 q2 _=>absurd q2.lt (by omega))
  rcases hf.e t with g |g<;>rw [g]
  ·exact this
  ·exact .u _
 ·have hno:∀ i,¬ rJ (Array.replicate ops.size false) i:=fun i hi=>by
   simp only [rJ,Array.getD_eq_getD_getElem?,Array.getElem?_replicate] at hi
   split at hi<;>simp at hi
  refine ⟨ρ,fp,(S 0).σ,0,⟨by simp,fun i o ho hd=>absurd hd (hno i),he.size,fun t m hm hw0 _=>?_,rfl,fun _ _=>rfl⟩,⟨Nat.zero_le _,.inl rfl,fun q i o _ _ hd=>absurd hd (hno i),?_,rfl,fun q i o b x _ _ hd=>absurd hd (hno i),fun b=>.inl rfl,fun b g1 _=>?_,fun q i o ha _ tM=>?_,?_⟩⟩
  ·have k1:aI ρ ((S 0).e t) (a.tmps.getD t undef):=by
    rcases h1.e t with g |g<;>rw [g]
    ·exact he.get t
    ·exact .u _
   have:∀ r i o,0 ≤ r → r<m → At ops.toList l r i o → o.dst≠some t:=fun r i o _ g1 g2 g3=>hno i (hw0 r i o g1 g2 g3)
   rcases hr.SY fx (Nat.zero_le m) hm this with g |g<;>rw [g]
   ·exact k1
   ·exact .u _
  ·rw [Ve,hb]
   exact aO.QF ((aO.drew (aC.bump _)))
  ·rw [hb]
   rw [Ve] at g1
   exact (aC.next b g1).2
  ·refine (aC.next _ ?_).1
   rw [← Ve]
   exact hr.oO fx (Nat.zero_le q) (Nat.le_of_lt ha.lt)
  ·rw [ahU,hb];exact Nat.le_refl _
end Go.Abs
