/-
  AbsDraw2: a heap with more blocks in it than an operation looks at.
-/
import Derived.Test.YtncohicmiihjiaaGreatAbsDraw1
set_option linter.unusedVariables false
set_option linter.unusedSimpArgs false
set_option linter.constructorNameAsVariable false
namespace Go.Abs
open Go
variable {O:Type} {RO:O->Loc->(Nat->Option Obj)->Prop} {P:Program} {G:List (Nat × Sm O)} {n:Nat}
def gU (J Jd:AH O) (b:Nat):Bool:=(J.aa b).isNone && (Jd.aa b).isSome
def shr (fp:Fp) (J:AH O):Fp:=fun b=>if (J.aa b).isSome=true then fp b else fun _=>none
def mc (J Jd J':AH O):AH O:=⟨fun b=>if gU J Jd b=true then Jd.aa b else J'.aa b,J'.next⟩
theorem qG {J Jd:AH O} {b:Nat} (h:gU J Jd b=true):J.aa b=none/\∃ x,Jd.aa b=some x:=by
 unfold gU at h
 simp only [Bool.and_eq_true,Option.isNone_iff_eq_none] at h
 exact ⟨h.1,Option.isSome_iff_exists.1 h.2⟩
theorem jR {fp:Fp} {J:AH O} {b B:Nat} (h:shr fp J b B≠none):(∃ x,J.aa b=some x)/\fp b B≠none:=by
 unfold shr at h
 split at h
 ·rename_i hs;exact ⟨Option.isSome_iff_exists.1 hs,h⟩
 ·simp at h
theorem Ag {fp:Fp} {J:AH O} {b B:Nat} (h:fp b B=none):shr fp J b B=none:=by
 unfold shr;split
 ·exact h
 ·rfl
theorem Rel.shrink {ρ:bT} {fp:Fp} {J Jd:AH O} {w:World} (hd:Rel RO P ρ fp Jd w) (tO:∀ b x,J.aa b=some x->Jd.aa b=some x) (hn:J.next=Jd.next):Rel RO P ρ (shr fp J) J w where
 next:=fun b hb=>by
  obtain ⟨h1,h2⟩:=hd.next b (by omega)
  refine ⟨h1,?_⟩
  cases hx:J.aa b with
  |none=>rfl
  |some x=>rw [tO b x hx] at h2;cases h2
 aa:=fun b x L hx hL=>by
  have:shr fp J b=fp b:=by simp [shr,hx]
  rw [this];exact hd.aa b x L (tO b x hx) hL
 dead:=fun b hb=>by
  rcases hb with hb |hb
  ·simp [shr,hb]
  ·unfold shr;split
   ·exact hd.dead b (.inr hb)
   ·rfl
 has:=fun b B o hb=>by
  have h1:=jR (fp:=fp) (J:=J) (b:=b) (B:=B) (by rw [hb];simp)
  obtain ⟨⟨x,hx⟩,_⟩:=h1
  have:shr fp J b=fp b:=by simp [shr,hx]
  rw [this] at hb
  exact hd.has b B o hb
 iC:=fun b c B hb hc=>hd.iC b c B (jR hb).2 (jR hc).2
 fz:=fun B o u hu=>⟨(hd.fz B o u hu).1,fun c=>Ag ((hd.fz B o u hu).2 c)⟩
theorem aR.Sv {S:Nat->Prop} {ρ aQ:bT} {fp fp':Fp} {J Jd J':AH O} {w w':World} (hd:Rel RO P ρ fp Jd w) (tO:∀ b x,J.aa b=some x->Jd.aa b=some x) (hn:J.next=Jd.next)
  (hp:∀ b x,J.aa b=none->Jd.aa b=some x->(∃ el cs,x=.cells true el cs)/\S b)
  (h:aR RO P S ρ (shr fp J) J w aQ fp' J' w'):∃ Cs,aR RO P S ρ fp Jd w aQ Cs (mc J Jd J') w':=by
 have key:∀ b,gU J Jd b=true->b<J.next/\J'.aa b=none/\aQ b=ρ b/\∃ el cs,Jd.aa b=some (.cells true el cs):=fun b hb=>by
  obtain ⟨h1,x,h2⟩:=qG hb
  obtain ⟨⟨el,cs,rfl⟩,hS⟩:=hp b x h1 h2
  have aY:b<J.next:=by
   rcases Nat.lt_or_ge b J.next with hh |hh
   ·exact hh
   ·rw [(hd.next b (by omega)).2] at h2;cases h2
  exact ⟨aY,h.blank b hS aY h1,h.ext b hS,el,cs,h2⟩
 have own:∀ b B,gU J Jd b=true->fp b B≠none->∃ el cs L arr,Jd.aa b=some (.cells true el cs)/\ρ b=some L/\B=L.B/\fp b=one L.B (.cells arr el (0,0)):=fun b B hb hB=>by
  obtain ⟨_,_,_,el,cs,h2⟩:=key b hb
  cases hL:ρ b with
  |none=>rw [hd.dead b (.inr hL)] at hB;exact absurd rfl hB
  |some L=>
   obtain ⟨arr,h3,_⟩:=hd.own h2 hL
   rw [h3] at hB
   exact ⟨el,cs,L,arr,h2,rfl,gu hB,h3⟩
 have apart:∀ b B,gU J Jd b=true->fp b B≠none->∀ c,shr fp J c B=none:=fun b B hb hB c=>by
  cases hx:shr fp J c B with
  |none=>rfl
  |some o=>
   obtain ⟨⟨x,h1⟩,h2⟩:=jR (fp:=fp) (J:=J) (b:=c) (B:=B) (by rw [hx];simp)
   have:=hd.iC c b B h2 hB
   subst this
   rw [(qG hb).1] at h1;cases h1
 have Iy:∀ b B,gU J Jd b=true->fp b B≠none->∀ c,fp' c B=none:=fun b B hb hB c=>by
  cases hx:fp' c B with
  |none=>rfl
  |some o=>
   obtain ⟨c',h1⟩:=h.grow c B (hd.size hB) (by rw [hx];simp)
   exact absurd (apart b B hb hB c') h1
 let Cs:Fp:=fun b=>if gU J Jd b=true then fp b else fp' b
 have f3:∀ b,gU J Jd b=true->Cs b=fp b:=fun b hb=>by simp [Cs,hb]
 have Qw:∀ b,¬ gU J Jd b=true->Cs b=fp' b:=fun b hb=>by simp [Cs,hb]
 have r1:∀ b,gU J Jd b=true->(mc J Jd J').aa b=Jd.aa b:=fun b hb=>by simp [mc,hb]
 have r2:∀ b,¬ gU J Jd b=true->(mc J Jd J').aa b=J'.aa b:=fun b hb=>by simp [mc,hb]
 have dV:∀ b B,gU J Jd b=true->fp b B≠none->w'.heap[B]? = w.heap[B]? := fun b B hb hB=>h.fr.dV B (hd.size hB) (apart b B hb hB)
 refine ⟨Cs,⟨⟨fun b hb=>?_,fun b x L hx hL=>?_,fun b hb=>?_,fun b B o hb=>?_,fun b c B hb hc=>?_,fun B o u hu=>⟨(h.rel.fz B o u hu).1,fun c=>?_⟩⟩,⟨h.fr.os,h.fr.tape,h.fr.output,h.fr.size,fun B hB hk=>h.fr.dV B hB fun b=>Ag (hk b)⟩,
  fun b B hB hb=>?_,fun B o u hu aY=>?_,h.le,h.ext,fun b hS aY h0=>?_,by have:=h.next;rw [hn] at this;exact this⟩⟩
 ·have dJ:J'.next<=b:=hb
  obtain ⟨h1,h2⟩:=h.rel.next b dJ
  refine ⟨h1,?_⟩
  rw [r2 b fun vA=>by have:=(key b vA).1;have:=h.next;omega]
  exact h2
 ·by_cases hb:gU J Jd b=true
  ·rw [r1 b hb] at hx
   rw [f3 b hb]
   obtain ⟨_,_,he,el,cs,h2⟩:=key b hb
   rw [he] at hL
   rw [h2] at hx;cases hx
   exact (hd.aa b _ L h2 hL).mono h.le
  ·rw [r2 b hb] at hx
   rw [Qw b hb]
   exact h.rel.aa b x L hx hL
 ·by_cases yh:gU J Jd b=true
  ·rw [f3 b yh]
   rw [r1 b yh,(key b yh).2.2.1] at hb
   exact hd.dead b hb
  ·rw [Qw b yh]
   rw [r2 b yh] at hb
   exact h.rel.dead b hb
 ·by_cases yh:gU J Jd b=true
  ·rw [f3 b yh] at hb
   rw [dV b B yh (by rw [hb];simp)]
   exact hd.has b B o hb
  ·rw [Qw b yh] at hb
   exact h.rel.has b B o hb
 ·by_cases yh:gU J Jd b=true
  ·rw [f3 b yh] at hb
   by_cases Mm:gU J Jd c=true
   ·rw [f3 c Mm] at hc
    exact hd.iC b c B hb hc
   ·rw [Qw c Mm] at hc
    exact absurd (Iy b B yh hb c) hc
  ·rw [Qw b yh] at hb
   by_cases Mm:gU J Jd c=true
   ·rw [f3 c Mm] at hc
    exact absurd (Iy c B Mm hc b) hb
   ·rw [Qw c Mm] at hc
    exact h.rel.iC b c B hb hc
 ·by_cases Mm:gU J Jd c=true
  ·rw [f3 c Mm]
   cases hy:fp c B with
   |none=>rfl
   |some x=>
    have hy':fp c B≠none:=by rw [hy];simp
    rcases h.Np B o u hu (hd.size hy') with ⟨c',h1⟩ |⟨o',u',h1⟩
    ·exact absurd (apart c _ Mm hy' c') h1
    ·exact absurd ((hd.fz B o' u' h1).2 c) hy'
  ·rw [Qw c Mm]
   exact (h.rel.fz B o u hu).2 c
 ·by_cases yh:gU J Jd b=true
  ·rw [f3 b yh] at hb;exact ⟨b,hb⟩
  ·rw [Qw b yh] at hb
   obtain ⟨c,hc⟩:=h.grow b B hB hb
   exact ⟨c,(jR hc).2⟩
 ·rcases h.Np B o u hu aY with ⟨c,h1⟩ |h1
  ·exact .inl ⟨c,(jR h1).2⟩
  ·exact .inr h1
 ·by_cases yh:gU J Jd b=true
  ·rw [r1 b yh];exact h0
  ·rw [r2 b yh]
   have h1:J.aa b=none:=by
    cases hx:J.aa b with
    |none=>rfl
    |some x=>rw [tO b x hx] at h0;cases h0
   exact h.blank b hS (by omega) h1
theorem aR.Cu {S:Nat->Prop} {ρ aQ:bT} {fp fp':Fp} {Jd Jx:AH O} {w w':World} (hn:Jx.next=Jd.next) (hb:∀ b,ρ b≠none->Jx.aa b=Jd.aa b) (dJ:∀ b,aQ b≠none->Jx.aa b=Jd.aa b)
  (h:aR RO P S ρ fp Jx w aQ fp' Jx w') (h1:∀ b,Jd.next<=b->Jd.aa b=none):aR RO P S ρ fp Jd w aQ fp' Jd w':=by
 have nn:∀ {b:Nat} {L:Loc} {r:bT},r b=some L->r b≠none:=fun h=>by rw [h];simp
 refine ⟨⟨fun b iD=>⟨(h.rel.next b (by omega)).1,h1 b iD⟩,fun b x L hx hL=>?_,fun b Iz=>?_,h.rel.has,h.rel.iC,h.rel.fz⟩,h.fr,h.grow,h.Np,h.le,h.ext,fun _ _ _ h0=>h0,Nat.le_refl _⟩
 ·exact h.rel.aa b x L (by rw [dJ b (nn hL)];exact hx) hL
 ·by_cases hr:aQ b=none
  ·exact h.rel.dead b (.inr hr)
  ·rcases Iz with Iz |Iz
   ·exact h.rel.dead b (.inl (by rw [dJ b hr];exact Iz))
   ·exact absurd Iz hr
theorem Rel.Cu {ρ:bT} {fp:Fp} {Jd Jx:AH O} {w:World} (h:Rel RO P ρ fp Jd w) (hn:Jx.next=Jd.next) (hb:∀ b,ρ b≠none->Jx.aa b=Jd.aa b) (h1:∀ b,Jd.next<=b->Jx.aa b=none):Rel RO P ρ fp Jx w:=by
 have nn:∀ {b:Nat} {L:Loc} {r:bT},r b=some L->r b≠none:=fun h=>by rw [h];simp
 refine ⟨fun b iD=>⟨(h.next b (by omega)).1,h1 b (by omega)⟩,fun b x L hx hL=>?_,fun b Iz=>?_,h.has,h.iC,h.fz⟩
 ·exact h.aa b x L (by rw [<-hb b (nn hL)];exact hx) hL
 ·by_cases hr:ρ b=none
  ·exact h.dead b (.inr hr)
  ·rcases Iz with Iz |Iz
   ·exact h.dead b (.inl (by rw [<-hb b hr];exact Iz))
   ·exact absurd Iz hr
end Go.Abs
