/-
  AbsDraw2: a heap with more blocks in it than an operation looks at.
-/
import Derived.Test.YtlgnboohmahbaaaGreatAbsDraw1
set_option linter.unusedVariables false
set_option linter.unusedSimpArgs false
set_option linter.constructorNameAsVariable false
namespace Go.Abs
open Go
variable {O : Type} {RO : O → Loc → (Nat → Option Obj) → Prop} {P : Program} {G : List (Nat × Sm O)} {n : Nat}
def pend (σ σd : AH O) (b : Nat) : Bool := (σ.blk b).isNone && (σd.blk b).isSome
def shr (fp : Fp) (σ : AH O) : Fp := fun b => if (σ.blk b).isSome = true then fp b else fun _ => none
def regrow (σ σd σ' : AH O) : AH O := ⟨fun b => if pend σ σd b = true then σd.blk b else σ'.blk b, σ'.next⟩
theorem pend_spec {σ σd : AH O} {b : Nat} (h : pend σ σd b = true) : σ.blk b = none ∧ ∃ x, σd.blk b = some x := by
 unfold pend at h
 simp only [Bool.and_eq_true, Option.isNone_iff_eq_none] at h
 exact ⟨h.1, Option.isSome_iff_exists.1 h.2⟩
theorem shr_some {fp : Fp} {σ : AH O} {b B : Nat} (h : shr fp σ b B ≠ none) : (∃ x, σ.blk b = some x) ∧ fp b B ≠ none := by
 unfold shr at h
 split at h
 ·rename_i hs; exact ⟨Option.isSome_iff_exists.1 hs, h⟩
 ·simp at h
theorem shr_none {fp : Fp} {σ : AH O} {b B : Nat} (h : fp b B = none) : shr fp σ b B = none := by
 unfold shr; split
 ·exact h
 ·rfl
theorem Rel.shrink {ρ : Inj} {fp : Fp} {σ σd : AH O} {w : World} (hd : Rel RO P ρ fp σd w) (hsub : ∀ b x, σ.blk b = some x → σd.blk b = some x) (hn : σ.next = σd.next) : Rel RO P ρ (shr fp σ) σ w where
 next := fun b hb => by
  obtain ⟨h1, h2⟩ := hd.next b (by omega)
  refine ⟨h1, ?_⟩
  cases hx : σ.blk b with
  | none => rfl
  | some x => rw [hsub b x hx] at h2; cases h2
 blk := fun b x L hx hL => by
  have : shr fp σ b = fp b := by simp [shr, hx]
  rw [this]; exact hd.blk b x L (hsub b x hx) hL
 dead := fun b hb => by
  rcases hb with hb | hb
  ·simp [shr, hb]
  ·unfold shr; split
   ·exact hd.dead b (.inr hb)
   ·rfl
 has := fun b B o hb => by
  have h1 := shr_some (fp := fp) (σ := σ) (b := b) (B := B) (by rw [hb]; simp)
  obtain ⟨⟨x, hx⟩, _⟩ := h1
  have : shr fp σ b = fp b := by simp [shr, hx]
  rw [this] at hb
  exact hd.has b B o hb
 disj := fun b c B hb hc => hd.disj b c B (shr_some hb).2 (shr_some hc).2
 fz := fun B o u hu => ⟨(hd.fz B o u hu).1, fun c => shr_none ((hd.fz B o u hu).2 c)⟩
theorem Post.around {S : Nat → Prop} {ρ ρ' : Inj} {fp fp' : Fp} {σ σd σ' : AH O} {w w' : World} (hd : Rel RO P ρ fp σd w) (hsub : ∀ b x, σ.blk b = some x → σd.blk b = some x) (hn : σ.next = σd.next)
  (hp : ∀ b x, σ.blk b = none → σd.blk b = some x → (∃ el cs, x = .cells true el cs) ∧ S b)
  (h : Post RO P S ρ (shr fp σ) σ w ρ' fp' σ' w') : ∃ fp3, Post RO P S ρ fp σd w ρ' fp3 (regrow σ σd σ') w' := by
 have key : ∀ b, pend σ σd b = true → b < σ.next ∧ σ'.blk b = none ∧ ρ' b = ρ b ∧ ∃ el cs, σd.blk b = some (.cells true el cs) := fun b hb => by
  obtain ⟨h1, x, h2⟩ := pend_spec hb
  obtain ⟨⟨el, cs, rfl⟩, hS⟩ := hp b x h1 h2
  have hlt : b < σ.next := by
   rcases Nat.lt_or_ge b σ.next with hh | hh
   ·exact hh
   ·rw [(hd.next b (by omega)).2] at h2; cases h2
  exact ⟨hlt, h.blank b hS hlt h1, h.ext b hS, el, cs, h2⟩
 have own : ∀ b B, pend σ σd b = true → fp b B ≠ none → ∃ el cs L arr, σd.blk b = some (.cells true el cs) ∧ ρ b = some L ∧ B = L.B ∧ fp b = one L.B (.cells arr el (0, 0)) := fun b B hb hB => by
  obtain ⟨_, _, _, el, cs, h2⟩ := key b hb
  cases hL : ρ b with
  | none => rw [hd.dead b (.inr hL)] at hB; exact absurd rfl hB
  | some L =>
   obtain ⟨arr, h3, _⟩ := hd.own h2 hL
   rw [h3] at hB
   exact ⟨el, cs, L, arr, h2, rfl, one_ne hB, h3⟩
 have apart : ∀ b B, pend σ σd b = true → fp b B ≠ none → ∀ c, shr fp σ c B = none := fun b B hb hB c => by
  cases hx : shr fp σ c B with
  | none => rfl
  | some o =>
   obtain ⟨⟨x, h1⟩, h2⟩ := shr_some (fp := fp) (σ := σ) (b := c) (B := B) (by rw [hx]; simp)
   have := hd.disj c b B h2 hB
   subst this
   rw [(pend_spec hb).1] at h1; cases h1
 have apart' : ∀ b B, pend σ σd b = true → fp b B ≠ none → ∀ c, fp' c B = none := fun b B hb hB c => by
  cases hx : fp' c B with
  | none => rfl
  | some o =>
   obtain ⟨c', h1⟩ := h.grow c B (hd.size hB) (by rw [hx]; simp)
   exact absurd (apart b B hb hB c') h1
 let fp3 : Fp := fun b => if pend σ σd b = true then fp b else fp' b
 have f3 : ∀ b, pend σ σd b = true → fp3 b = fp b := fun b hb => by simp [fp3, hb]
 have f3' : ∀ b, ¬ pend σ σd b = true → fp3 b = fp' b := fun b hb => by simp [fp3, hb]
 have r1 : ∀ b, pend σ σd b = true → (regrow σ σd σ').blk b = σd.blk b := fun b hb => by simp [regrow, hb]
 have r2 : ∀ b, ¬ pend σ σd b = true → (regrow σ σd σ').blk b = σ'.blk b := fun b hb => by simp [regrow, hb]
 have keep : ∀ b B, pend σ σd b = true → fp b B ≠ none → w'.heap[B]? = w.heap[B]? := fun b B hb hB => h.fr.keep B (hd.size hB) (apart b B hb hB)
 refine ⟨fp3, ⟨⟨fun b hb => ?_, fun b x L hx hL => ?_, fun b hb => ?_, fun b B o hb => ?_, fun b c B hb hc => ?_, fun B o u hu => ⟨(h.rel.fz B o u hu).1, fun c => ?_⟩⟩, ⟨h.fr.os, h.fr.tape, h.fr.output, h.fr.size, fun B hB hk => h.fr.keep B hB fun b => shr_none (hk b)⟩,
  fun b B hB hb => ?_, fun B o u hu hlt => ?_, h.le, h.ext, fun b hS hlt h0 => ?_, by have := h.next; rw [hn] at this; exact this⟩⟩
 ·have hb' : σ'.next ≤ b := hb
  obtain ⟨h1, h2⟩ := h.rel.next b hb'
  refine ⟨h1, ?_⟩
  rw [r2 b fun hp' => by have := (key b hp').1; have := h.next; omega]
  exact h2
 ·by_cases hb : pend σ σd b = true
  ·rw [r1 b hb] at hx
   rw [f3 b hb]
   obtain ⟨_, _, he, el, cs, h2⟩ := key b hb
   rw [he] at hL
   rw [h2] at hx; cases hx
   exact (hd.blk b _ L h2 hL).mono h.le
  ·rw [r2 b hb] at hx
   rw [f3' b hb]
   exact h.rel.blk b x L hx hL
 ·by_cases hbp : pend σ σd b = true
  ·rw [f3 b hbp]
   rw [r1 b hbp, (key b hbp).2.2.1] at hb
   exact hd.dead b hb
  ·rw [f3' b hbp]
   rw [r2 b hbp] at hb
   exact h.rel.dead b hb
 ·by_cases hbp : pend σ σd b = true
  ·rw [f3 b hbp] at hb
   rw [keep b B hbp (by rw [hb]; simp)]
   exact hd.has b B o hb
  ·rw [f3' b hbp] at hb
   exact h.rel.has b B o hb
 ·by_cases hbp : pend σ σd b = true
  ·rw [f3 b hbp] at hb
   by_cases hcp : pend σ σd c = true
   ·rw [f3 c hcp] at hc
    exact hd.disj b c B hb hc
   ·rw [f3' c hcp] at hc
    exact absurd (apart' b B hbp hb c) hc
  ·rw [f3' b hbp] at hb
   by_cases hcp : pend σ σd c = true
   ·rw [f3 c hcp] at hc
    exact absurd (apart' c B hcp hc b) hb
   ·rw [f3' c hcp] at hc
    exact h.rel.disj b c B hb hc
 ·by_cases hcp : pend σ σd c = true
  ·rw [f3 c hcp]
   cases hy : fp c B with
   | none => rfl
   | some x =>
    have hy' : fp c B ≠ none := by rw [hy]; simp
    rcases h.gro B o u hu (hd.size hy') with ⟨c', h1⟩ | ⟨o', u', h1⟩
    ·exact absurd (apart c _ hcp hy' c') h1
    ·exact absurd ((hd.fz B o' u' h1).2 c) hy'
  ·rw [f3' c hcp]
   exact (h.rel.fz B o u hu).2 c
 ·by_cases hbp : pend σ σd b = true
  ·rw [f3 b hbp] at hb; exact ⟨b, hb⟩
  ·rw [f3' b hbp] at hb
   obtain ⟨c, hc⟩ := h.grow b B hB hb
   exact ⟨c, (shr_some hc).2⟩
 ·rcases h.gro B o u hu hlt with ⟨c, h1⟩ | h1
  ·exact .inl ⟨c, (shr_some h1).2⟩
  ·exact .inr h1
 ·by_cases hbp : pend σ σd b = true
  ·rw [r1 b hbp]; exact h0
  ·rw [r2 b hbp]
   have h1 : σ.blk b = none := by
    cases hx : σ.blk b with
    | none => rfl
    | some x => rw [hsub b x hx] at h0; cases h0
   exact h.blank b hS (by omega) h1
theorem Post.ghosts {S : Nat → Prop} {ρ ρ' : Inj} {fp fp' : Fp} {σd σx : AH O} {w w' : World} (hn : σx.next = σd.next) (hb : ∀ b, ρ b ≠ none → σx.blk b = σd.blk b) (hb' : ∀ b, ρ' b ≠ none → σx.blk b = σd.blk b)
  (h : Post RO P S ρ fp σx w ρ' fp' σx w') (h1 : ∀ b, σd.next ≤ b → σd.blk b = none) : Post RO P S ρ fp σd w ρ' fp' σd w' := by
 have nn : ∀ {b : Nat} {L : Loc} {r : Inj}, r b = some L → r b ≠ none := fun h => by rw [h]; simp
 refine ⟨⟨fun b hbn => ⟨(h.rel.next b (by omega)).1, h1 b hbn⟩, fun b x L hx hL => ?_, fun b hbd => ?_, h.rel.has, h.rel.disj, h.rel.fz⟩, h.fr, h.grow, h.gro, h.le, h.ext, fun _ _ _ h0 => h0, Nat.le_refl _⟩
 ·exact h.rel.blk b x L (by rw [hb' b (nn hL)]; exact hx) hL
 ·by_cases hr : ρ' b = none
  ·exact h.rel.dead b (.inr hr)
  ·rcases hbd with hbd | hbd
   ·exact h.rel.dead b (.inl (by rw [hb' b hr]; exact hbd))
   ·exact absurd hbd hr
theorem Rel.ghosts {ρ : Inj} {fp : Fp} {σd σx : AH O} {w : World} (h : Rel RO P ρ fp σd w) (hn : σx.next = σd.next) (hb : ∀ b, ρ b ≠ none → σx.blk b = σd.blk b) (h1 : ∀ b, σd.next ≤ b → σx.blk b = none) : Rel RO P ρ fp σx w := by
 have nn : ∀ {b : Nat} {L : Loc} {r : Inj}, r b = some L → r b ≠ none := fun h => by rw [h]; simp
 refine ⟨fun b hbn => ⟨(h.next b (by omega)).1, h1 b (by omega)⟩, fun b x L hx hL => ?_, fun b hbd => ?_, h.has, h.disj, h.fz⟩
 ·exact h.blk b x L (by rw [← hb b (nn hL)]; exact hx) hL
 ·by_cases hr : ρ b = none
  ·exact h.dead b (.inr hr)
  ·rcases hbd with hbd | hbd
   ·exact h.dead b (.inl (by rw [← hb b hr]; exact hbd))
   ·exact absurd hbd hr
end Go.Abs
