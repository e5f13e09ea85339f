/-
  AbsDraw2: a heap with more blocks in it than an operation looks at.
-/
import Derived.Test.YtlgnboohmahbaaaGreatDoorAbsDraw1
set_option linter.unusedVariables false
set_option linter.unusedSimpArgs false
set_option linter.constructorNameAsVariable false
namespace Go.Abs
open Go
variable {O:Type} {RO:O → Loc → (Nat → Option Obj) → Prop} {P:Program} {G:List (Nat × Sm O)} {n:Nat}
def pP (σ cB:AH O) (b:Nat):Bool:=(σ.ai b).isNone && (cB.ai b).isSome
def shr (fp:Fp) (σ:AH O):Fp:=fun b=>if (σ.ai b).isSome=true then fp b else fun _=>none
def BD (σ cB aj:AH O):AH O:=⟨fun b=>if pP σ cB b=true then cB.ai b else aj.ai b,aj.next⟩
theorem Ic {σ cB:AH O} {b:Nat} (h:pP σ cB b=true):σ.ai b=none ∧ ∃ x,cB.ai b=some x:=by
 unfold pP at h
 simp only [Bool.and_eq_true,Option.isNone_iff_eq_none] at h
 exact ⟨h.1,Option.isSome_iff_exists.1 h.2⟩
theorem wu {fp:Fp} {σ:AH O} {b B:Nat} (h:shr fp σ b B≠none):(∃ x,σ.ai b=some x) ∧ fp b B≠none:=by
 unfold shr at h
 split at h
 ·rename_i hs;exact ⟨Option.isSome_iff_exists.1 hs,h⟩
 ·simp at h
theorem S0 {fp:Fp} {σ:AH O} {b B:Nat} (h:fp b B=none):shr fp σ b B=none:=by
 unfold shr;split
 ·exact h
 ·rfl
theorem Rel.shrink {ρ:cl} {fp:Fp} {σ cB:AH O} {w:World} (hd:Rel RO P ρ fp cB w) (QC:∀ b x,σ.ai b=some x → cB.ai b=some x) (hn:σ.next=cB.next):Rel RO P ρ (shr fp σ) σ w where
 next:=fun b hb=>by
  obtain ⟨h1,h2⟩:=hd.next b (by omega)
  refine ⟨h1,?_⟩
  cases hx:σ.ai b with
  |none=>rfl
  |some x=>rw [QC b x hx] at h2;cases h2
 ai:=fun b x L hx hL=>by
  have:shr fp σ b=fp b:=by simp [shr,hx]
  rw [this];exact hd.ai b x L (QC b x hx) hL
 dead:=fun b hb=>by
  rcases hb with hb |hb
  ·simp [shr,hb]
  ·unfold shr;split
   ·exact hd.dead b (.inr hb)
   ·rfl
 has:=fun b B o hb=>by
  have h1:=wu (fp:=fp) (σ:=σ) (b:=b) (B:=B) (by rw [hb];simp)
  obtain ⟨⟨x,hx⟩,_⟩:=h1
  have:shr fp σ b=fp b:=by simp [shr,hx]
  rw [this] at hb
  exact hd.has b B o hb
 nT:=fun b c B hb hc=>hd.nT b c B (wu hb).2 (wu hc).2
 fz:=fun B o u hu=>⟨(hd.fz B o u hu).1,fun c=>S0 ((hd.fz B o u hu).2 c)⟩
theorem aO.ahX {S:Nat → Prop} {ρ aR:cl} {fp fp':Fp} {σ cB aj:AH O} {w w':World} (hd:Rel RO P ρ fp cB w) (QC:∀ b x,σ.ai b=some x → cB.ai b=some x) (hn:σ.next=cB.next)
  (hp:∀ b x,σ.ai b=none → cB.ai b=some x → (∃ el cs,x=.cells true el cs) ∧ S b)
  (h:aO RO P S ρ (shr fp σ) σ w aR fp' aj w'):∃ Vd,aO RO P S ρ fp cB w aR Vd (BD σ cB aj) w':=by
 have key:∀ b,pP σ cB b=true → b<σ.next ∧ aj.ai b=none ∧ aR b=ρ b ∧ ∃ el cs,cB.ai b=some (.cells true el cs):=fun b hb=>by
  obtain ⟨h1,x,h2⟩:=Ic hb
  obtain ⟨⟨el,cs,rfl⟩,hS⟩:=hp b x h1 h2
  have bS:b<σ.next:=by
   rcases Nat.lt_or_ge b σ.next with hh |hh
   ·exact hh
   ·rw [(hd.next b (by omega)).2] at h2;cases h2
  exact ⟨bS,h.blank b hS bS h1,h.ext b hS,el,cs,h2⟩
 have own:∀ b B,pP σ cB b=true → fp b B≠none → ∃ el cs L arr,cB.ai b=some (.cells true el cs) ∧ ρ b=some L ∧ B=L.B ∧ fp b=one L.B (.cells arr el (0,0)):=fun b B hb hB=>by
  obtain ⟨_,_,_,el,cs,h2⟩:=key b hb
  cases hL:ρ b with
  |none=>rw [hd.dead b (.inr hL)] at hB;exact absurd rfl hB
  |some L=>
   obtain ⟨arr,h3,_⟩:=hd.own h2 hL
   rw [h3] at hB
   exact ⟨el,cs,L,arr,h2,rfl,nU hB,h3⟩
 have apart:∀ b B,pP σ cB b=true → fp b B≠none → ∀ c,shr fp σ c B=none:=fun b B hb hB c=>by
  cases hx:shr fp σ c B with
  |none=>rfl
  |some o=>
   obtain ⟨⟨x,h1⟩,h2⟩:=wu (fp:=fp) (σ:=σ) (b:=c) (B:=B) (by rw [hx];simp)
   have:=hd.nT c b B h2 hB
   subst this
   rw [(Ic hb).1] at h1;cases h1
 have aap:∀ b B,pP σ cB b=true → fp b B≠none → ∀ c,fp' c B=none:=fun b B hb hB c=>by
  cases hx:fp' c B with
  |none=>rfl
  |some o=>
   obtain ⟨c',h1⟩:=h.grow c B (hd.size hB) (by rw [hx];simp)
   exact absurd (apart b B hb hB c') h1
 let Vd:Fp:=fun b=>if pP σ cB b=true then fp b else fp' b
 have f3:∀ b,pP σ cB b=true → Vd b=fp b:=fun b hb=>by simp [Vd,hb]
 have f3':∀ b,¬ pP σ cB b=true → Vd b=fp' b:=fun b hb=>by simp [Vd,hb]
 have r1:∀ b,pP σ cB b=true → (BD σ cB aj).ai b=cB.ai b:=fun b hb=>by simp [BD,hb]
 have r2:∀ b,¬ pP σ cB b=true → (BD σ cB aj).ai b=aj.ai b:=fun b hb=>by simp [BD,hb]
 have Kk:∀ b B,pP σ cB b=true → fp b B≠none → w'.heap[B]? = w.heap[B]? := fun b B hb hB=>h.fr.Kk B (hd.size hB) (apart b B hb hB)
 refine ⟨Vd,⟨⟨fun b hb=>?_,fun b x L hx hL=>?_,fun b hb=>?_,fun b B o hb=>?_,fun b c B hb hc=>?_,fun B o u hu=>⟨(h.rel.fz B o u hu).1,fun c=>?_⟩⟩,⟨h.fr.os,h.fr.tape,h.fr.output,h.fr.size,fun B hB hk=>h.fr.Kk B hB fun b=>S0 (hk b)⟩,
  fun b B hB hb=>?_,fun B o u hu bS=>?_,h.le,h.ext,fun b hS bS h0=>?_,by have:=h.next;rw [hn] at this;exact this⟩⟩
 ·have oP:aj.next ≤ b:=hb
  obtain ⟨h1,h2⟩:=h.rel.next b oP
  refine ⟨h1,?_⟩
  rw [r2 b fun N9=>by have:=(key b N9).1;have:=h.next;omega]
  exact h2
 ·by_cases hb:pP σ cB b=true
  ·rw [r1 b hb] at hx
   rw [f3 b hb]
   obtain ⟨_,_,he,el,cs,h2⟩:=key b hb
   rw [he] at hL
   rw [h2] at hx;cases hx
   exact (hd.ai b _ L h2 hL).mono h.le
  ·rw [r2 b hb] at hx
   rw [f3' b hb]
   exact h.rel.ai b x L hx hL
 ·by_cases QG:pP σ cB b=true
  ·rw [f3 b QG]
   rw [r1 b QG,(key b QG).2.2.1] at hb
   exact hd.dead b hb
  ·rw [f3' b QG]
   rw [r2 b QG] at hb
   exact h.rel.dead b hb
 ·by_cases QG:pP σ cB b=true
  ·rw [f3 b QG] at hb
   rw [Kk b B QG (by rw [hb];simp)]
   exact hd.has b B o hb
  ·rw [f3' b QG] at hb
   exact h.rel.has b B o hb
 ·by_cases QG:pP σ cB b=true
  ·rw [f3 b QG] at hb
   by_cases hcp:pP σ cB c=true
   ·rw [f3 c hcp] at hc
    exact hd.nT b c B hb hc
   ·rw [f3' c hcp] at hc
    exact absurd (aap b B QG hb c) hc
  ·rw [f3' b QG] at hb
   by_cases hcp:pP σ cB c=true
   ·rw [f3 c hcp] at hc
    exact absurd (aap c B hcp hc b) hb
   ·rw [f3' c hcp] at hc
    exact h.rel.nT b c B hb hc
 ·by_cases hcp:pP σ cB c=true
  ·rw [f3 c hcp]
   cases hy:fp c B with
   |none=>rfl
   |some x=>
    have hy':fp c B≠none:=by rw [hy];simp
    rcases h.gro B o u hu (hd.size hy') with ⟨c',h1⟩ |⟨o',u',h1⟩
    ·exact absurd (apart c _ hcp hy' c') h1
    ·exact absurd ((hd.fz B o' u' h1).2 c) hy'
  ·rw [f3' c hcp]
   exact (h.rel.fz B o u hu).2 c
 ·by_cases QG:pP σ cB b=true
  ·rw [f3 b QG] at hb;exact ⟨b,hb⟩
  ·rw [f3' b QG] at hb
   obtain ⟨c,hc⟩:=h.grow b B hB hb
   exact ⟨c,(wu hc).2⟩
 ·rcases h.gro B o u hu bS with ⟨c,h1⟩ |h1
  ·exact .inl ⟨c,(wu h1).2⟩
  ·exact .inr h1
 ·by_cases QG:pP σ cB b=true
  ·rw [r1 b QG];exact h0
  ·rw [r2 b QG]
   have h1:σ.ai b=none:=by
    cases hx:σ.ai b with
    |none=>rfl
    |some x=>rw [QC b x hx] at h0;cases h0
   exact h.blank b hS (by omega) h1
theorem aO.VQ {S:Nat → Prop} {ρ aR:cl} {fp fp':Fp} {cB Z3:AH O} {w w':World} (hn:Z3.next=cB.next) (hb:∀ b,ρ b≠none → Z3.ai b=cB.ai b) (oP:∀ b,aR b≠none → Z3.ai b=cB.ai b)
  (h:aO RO P S ρ fp Z3 w aR fp' Z3 w') (h1:∀ b,cB.next ≤ b → cB.ai b=none):aO RO P S ρ fp cB w aR fp' cB w':=by
 have nn:∀ {b:Nat} {L:Loc} {r:cl},r b=some L → r b≠none:=fun h=>by rw [h];simp
 refine ⟨⟨fun b qY=>⟨(h.rel.next b (by omega)).1,h1 b qY⟩,fun b x L hx hL=>?_,fun b hbd=>?_,h.rel.has,h.rel.nT,h.rel.fz⟩,h.fr,h.grow,h.gro,h.le,h.ext,fun _ _ _ h0=>h0,Nat.le_refl _⟩
 ·exact h.rel.ai b x L (by rw [oP b (nn hL)];exact hx) hL
 ·by_cases hr:aR b=none
  ·exact h.rel.dead b (.inr hr)
  ·rcases hbd with hbd |hbd
   ·exact h.rel.dead b (.inl (by rw [oP b hr];exact hbd))
   ·exact absurd hbd hr
theorem Rel.VQ {ρ:cl} {fp:Fp} {cB Z3:AH O} {w:World} (h:Rel RO P ρ fp cB w) (hn:Z3.next=cB.next) (hb:∀ b,ρ b≠none → Z3.ai b=cB.ai b) (h1:∀ b,cB.next ≤ b → Z3.ai b=none):Rel RO P ρ fp Z3 w:=by
 have nn:∀ {b:Nat} {L:Loc} {r:cl},r b=some L → r b≠none:=fun h=>by rw [h];simp
 refine ⟨fun b qY=>⟨(h.next b (by omega)).1,h1 b (by omega)⟩,fun b x L hx hL=>?_,fun b hbd=>?_,h.has,h.nT,h.fz⟩
 ·exact h.ai b x L (by rw [← hb b (nn hL)];exact hx) hL
 ·by_cases hr:ρ b=none
  ·exact h.dead b (.inr hr)
  ·rcases hbd with hbd |hbd
   ·exact h.dead b (.inl (by rw [← hb b hr];exact hbd))
   ·exact absurd hbd hr
end Go.Abs
