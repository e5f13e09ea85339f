/-
  AbsDraw2: a heap with more blocks in it than an operation looks at.
-/
import Derived.Test.YtncohicmiihjiaaGreatAbsDraw1
set_option linter.unusedVariables false
set_option linter.unusedSimpArgs false
set_option linter.constructorNameAsVariable false
namespace Go.Abs
open Go
variable {O:Type} {RO:O->Loc->(Nat->Option Obj)->Prop} {P:Program} {G:List (Nat × Sm O)} {n:Nat}
def gX (J Jd:AH O) (b:Nat):Bool:=(J.aa b).isNone && (Jd.aa b).isSome
def shr (fp:Fp) (J:AH O):Fp:=fun b=>if (J.aa b).isSome=true then fp b else fun _=>none
def mc (J Jd J':AH O):AH O:=⟨fun b=>if gX J Jd b=true then Jd.aa b else J'.aa b,J'.next⟩
theorem qQ {J Jd:AH O} {b:Nat} (h:gX J Jd b=true):J.aa b=none/\∃ x,Jd.aa b=some x:=by
 unfold gX at h
 simp only [Bool.and_eq_true,Option.isNone_iff_eq_none] at h
 exact ⟨h.1,Option.isSome_iff_exists.1 h.2⟩
theorem jY {fp:Fp} {J:AH O} {b B:Nat} (h:shr fp J b B≠none):(∃ x,J.aa b=some x)/\fp b B≠none:=by
 unfold shr at h
 split at h
 ·rename_i hs;exact ⟨Option.isSome_iff_exists.1 hs,h⟩
 ·simp at h
theorem Ab {fp:Fp} {J:AH O} {b B:Nat} (h:fp b B=none):shr fp J b B=none:=by
 unfold shr;split
 ·exact h
 ·rfl
theorem Rel.shrink {ρ:bX} {fp:Fp} {J Jd:AH O} {w:World} (hd:Rel RO P ρ fp Jd w) (tS:∀ b x,J.aa b=some x->Jd.aa b=some x) (hn:J.next=Jd.next):Rel RO P ρ (shr fp J) J w where
 next:=fun b hb=>by
  obtain ⟨h1,h2⟩:=hd.next b (by omega)
  refine ⟨h1,?_⟩
  cases hx:J.aa b with
  |none=>rfl
  |some x=>rw [tS b x hx] at h2;cases h2
 aa:=fun b x L hx hL=>by
  have:shr fp J b=fp b:=by simp [shr,hx]
  rw [this];exact hd.aa b x L (tS b x hx) hL
 dead:=fun b hb=>by
  rcases hb with hb |hb
  ·simp [shr,hb]
  ·unfold shr;split
   ·exact hd.dead b (.inr hb)
   ·rfl
 has:=fun b B o hb=>by
  have h1:=jY (fp:=fp) (J:=J) (b:=b) (B:=B) (by rw [hb];simp)
  obtain ⟨⟨x,hx⟩,_⟩:=h1
  have:shr fp J b=fp b:=by simp [shr,hx]
  rw [this] at hb
  exact hd.has b B o hb
 iH:=fun b c B hb hc=>hd.iH b c B (jY hb).2 (jY hc).2
 fz:=fun B o u hu=>⟨(hd.fz B o u hu).1,fun c=>Ab ((hd.fz B o u hu).2 c)⟩
theorem aS.RE {S:Nat->Prop} {ρ aQ:bX} {fp fp':Fp} {J Jd J':AH O} {w w':World} (hd:Rel RO P ρ fp Jd w) (tS:∀ b x,J.aa b=some x->Jd.aa b=some x) (hn:J.next=Jd.next)
  (hp:∀ b x,J.aa b=none->Jd.aa b=some x->(∃ el cs,x=.cells true el cs)/\S b)
  (h:aS RO P S ρ (shr fp J) J w aQ fp' J' w'):∃ Bw,aS RO P S ρ fp Jd w aQ Bw (mc J Jd J') w':=by
 have key:∀ b,gX J Jd b=true->b<J.next/\J'.aa b=none/\aQ b=ρ b/\∃ el cs,Jd.aa b=some (.cells true el cs):=fun b hb=>by
  obtain ⟨h1,x,h2⟩:=qQ hb
  obtain ⟨⟨el,cs,rfl⟩,hS⟩:=hp b x h1 h2
  have bp:b<J.next:=by
   rcases Nat.lt_or_ge b J.next with hh |hh
   ·exact hh
   ·rw [(hd.next b (by omega)).2] at h2;cases h2
  exact ⟨bp,h.blank b hS bp h1,h.ext b hS,el,cs,h2⟩
 have own:∀ b B,gX J Jd b=true->fp b B≠none->∃ el cs L arr,Jd.aa b=some (.cells true el cs)/\ρ b=some L/\B=L.B/\fp b=one L.B (.cells arr el (0,0)):=fun b B hb hB=>by
  obtain ⟨_,_,_,el,cs,h2⟩:=key b hb
  cases hL:ρ b with
  |none=>rw [hd.dead b (.inr hL)] at hB;exact absurd rfl hB
  |some L=>
   obtain ⟨arr,h3,_⟩:=hd.own h2 hL
   rw [h3] at hB
   exact ⟨el,cs,L,arr,h2,rfl,gp hB,h3⟩
 have apart:∀ b B,gX J Jd b=true->fp b B≠none->∀ c,shr fp J c B=none:=fun b B hb hB c=>by
  cases hx:shr fp J c B with
  |none=>rfl
  |some o=>
   obtain ⟨⟨x,h1⟩,h2⟩:=jY (fp:=fp) (J:=J) (b:=c) (B:=B) (by rw [hx];simp)
   have:=hd.iH c b B h2 hB
   subst this
   rw [(qQ hb).1] at h1;cases h1
 have Ia:∀ b B,gX J Jd b=true->fp b B≠none->∀ c,fp' c B=none:=fun b B hb hB c=>by
  cases hx:fp' c B with
  |none=>rfl
  |some o=>
   obtain ⟨c',h1⟩:=h.grow c B (hd.size hB) (by rw [hx];simp)
   exact absurd (apart b B hb hB c') h1
 let Bw:Fp:=fun b=>if gX J Jd b=true then fp b else fp' b
 have f3:∀ b,gX J Jd b=true->Bw b=fp b:=fun b hb=>by simp [Bw,hb]
 have PK:∀ b,¬ gX J Jd b=true->Bw b=fp' b:=fun b hb=>by simp [Bw,hb]
 have r1:∀ b,gX J Jd b=true->(mc J Jd J').aa b=Jd.aa b:=fun b hb=>by simp [mc,hb]
 have r2:∀ b,¬ gX J Jd b=true->(mc J Jd J').aa b=J'.aa b:=fun b hb=>by simp [mc,hb]
 have dv:∀ b B,gX J Jd b=true->fp b B≠none->w'.heap[B]? = w.heap[B]? := fun b B hb hB=>h.fr.dv B (hd.size hB) (apart b B hb hB)
 refine ⟨Bw,⟨⟨fun b hb=>?_,fun b x L hx hL=>?_,fun b hb=>?_,fun b B o hb=>?_,fun b c B hb hc=>?_,fun B o u hu=>⟨(h.rel.fz B o u hu).1,fun c=>?_⟩⟩,⟨h.fr.os,h.fr.tape,h.fr.output,h.fr.size,fun B hB hk=>h.fr.dv B hB fun b=>Ab (hk b)⟩,
  fun b B hB hb=>?_,fun B o u hu bp=>?_,h.le,h.ext,fun b hS bp h0=>?_,by have:=h.next;rw [hn] at this;exact this⟩⟩
 ·have dI:J'.next<=b:=hb
  obtain ⟨h1,h2⟩:=h.rel.next b dI
  refine ⟨h1,?_⟩
  rw [r2 b fun wC=>by have:=(key b wC).1;have:=h.next;omega]
  exact h2
 ·by_cases hb:gX J Jd b=true
  ·rw [r1 b hb] at hx
   rw [f3 b hb]
   obtain ⟨_,_,he,el,cs,h2⟩:=key b hb
   rw [he] at hL
   rw [h2] at hx;cases hx
   exact (hd.aa b _ L h2 hL).mono h.le
  ·rw [r2 b hb] at hx
   rw [PK b hb]
   exact h.rel.aa b x L hx hL
 ·by_cases yg:gX J Jd b=true
  ·rw [f3 b yg]
   rw [r1 b yg,(key b yg).2.2.1] at hb
   exact hd.dead b hb
  ·rw [PK b yg]
   rw [r2 b yg] at hb
   exact h.rel.dead b hb
 ·by_cases yg:gX J Jd b=true
  ·rw [f3 b yg] at hb
   rw [dv b B yg (by rw [hb];simp)]
   exact hd.has b B o hb
  ·rw [PK b yg] at hb
   exact h.rel.has b B o hb
 ·by_cases yg:gX J Jd b=true
  ·rw [f3 b yg] at hb
   by_cases LQ:gX J Jd c=true
   ·rw [f3 c LQ] at hc
    exact hd.iH b c B hb hc
   ·rw [PK c LQ] at hc
    exact absurd (Ia b B yg hb c) hc
  ·rw [PK b yg] at hb
   by_cases LQ:gX J Jd c=true
   ·rw [f3 c LQ] at hc
    exact absurd (Ia c B LQ hc b) hb
   ·rw [PK c LQ] at hc
    exact h.rel.iH b c B hb hc
 ·by_cases LQ:gX J Jd c=true
  ·rw [f3 c LQ]
   cases hy:fp c B with
   |none=>rfl
   |some x=>
    have hy':fp c B≠none:=by rw [hy];simp
    rcases h.MJ B o u hu (hd.size hy') with ⟨c',h1⟩ |⟨o',u',h1⟩
    ·exact absurd (apart c _ LQ hy' c') h1
    ·exact absurd ((hd.fz B o' u' h1).2 c) hy'
  ·rw [PK c LQ]
   exact (h.rel.fz B o u hu).2 c
 ·by_cases yg:gX J Jd b=true
  ·rw [f3 b yg] at hb;exact ⟨b,hb⟩
  ·rw [PK b yg] at hb
   obtain ⟨c,hc⟩:=h.grow b B hB hb
   exact ⟨c,(jY hc).2⟩
 ·rcases h.MJ B o u hu bp with ⟨c,h1⟩ |h1
  ·exact .inl ⟨c,(jY h1).2⟩
  ·exact .inr h1
 ·by_cases yg:gX J Jd b=true
  ·rw [r1 b yg];exact h0
  ·rw [r2 b yg]
   have h1:J.aa b=none:=by
    cases hx:J.aa b with
    |none=>rfl
    |some x=>rw [tS b x hx] at h0;cases h0
   exact h.blank b hS (by omega) h1
theorem aS.Cc {S:Nat->Prop} {ρ aQ:bX} {fp fp':Fp} {Jd Jx:AH O} {w w':World} (hn:Jx.next=Jd.next) (hb:∀ b,ρ b≠none->Jx.aa b=Jd.aa b) (dI:∀ b,aQ b≠none->Jx.aa b=Jd.aa b)
  (h:aS RO P S ρ fp Jx w aQ fp' Jx w') (h1:∀ b,Jd.next<=b->Jd.aa b=none):aS RO P S ρ fp Jd w aQ fp' Jd w':=by
 have nn:∀ {b:Nat} {L:Loc} {r:bX},r b=some L->r b≠none:=fun h=>by rw [h];simp
 refine ⟨⟨fun b gK=>⟨(h.rel.next b (by omega)).1,h1 b gK⟩,fun b x L hx hL=>?_,fun b Ib=>?_,h.rel.has,h.rel.iH,h.rel.fz⟩,h.fr,h.grow,h.MJ,h.le,h.ext,fun _ _ _ h0=>h0,Nat.le_refl _⟩
 ·exact h.rel.aa b x L (by rw [dI b (nn hL)];exact hx) hL
 ·by_cases hr:aQ b=none
  ·exact h.rel.dead b (.inr hr)
  ·rcases Ib with Ib |Ib
   ·exact h.rel.dead b (.inl (by rw [dI b hr];exact Ib))
   ·exact absurd Ib hr
theorem Rel.Cc {ρ:bX} {fp:Fp} {Jd Jx:AH O} {w:World} (h:Rel RO P ρ fp Jd w) (hn:Jx.next=Jd.next) (hb:∀ b,ρ b≠none->Jx.aa b=Jd.aa b) (h1:∀ b,Jd.next<=b->Jx.aa b=none):Rel RO P ρ fp Jx w:=by
 have nn:∀ {b:Nat} {L:Loc} {r:bX},r b=some L->r b≠none:=fun h=>by rw [h];simp
 refine ⟨fun b gK=>⟨(h.next b (by omega)).1,h1 b (by omega)⟩,fun b x L hx hL=>?_,fun b Ib=>?_,h.has,h.iH,h.fz⟩
 ·exact h.aa b x L (by rw [<-hb b (nn hL)];exact hx) hL
 ·by_cases hr:ρ b=none
  ·exact h.dead b (.inr hr)
  ·rcases Ib with Ib |Ib
   ·exact h.dead b (.inl (by rw [<-hb b hr];exact Ib))
   ·exact absurd Ib hr
end Go.Abs
