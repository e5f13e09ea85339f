/-
  AbsFrz: what a function gives back is never written again: it is then its own name (a value without blocks).
-/
import Derived.Test.YtnbichnjfamdkaaGreatAbsRun
set_option linter.unusedVariables false
set_option linter.unusedSimpArgs false
set_option linter.constructorNameAsVariable false
namespace Go.Abs
open Go
variable {O : Type} {RO : O → Loc → (Nat → Option Obj) → Prop} {P : Program}
def frzL (F : AH O → AV → Option (AV × AH O)) : List AV → AH O → Option (List AV × AH O)
 | [], σ => some ([], σ)
 | v :: vs, σ => (F σ v).bind fun r => (frzL F vs r.2).bind fun q => some (r.1 :: q.1, q.2)
def frzV : Nat → AH O → AV → Option (AV × AH O)
 | 0, _, _ => none
 | d + 1, σ, v =>
  match v with
  | .sl (.loc (.n b) o es) n =>
   match σ.blk b with
   | some (.cells true _ cs) => bif Nat.ble (o + n * es) cs.length then (frzL (frzV d) ((cs.drop o).take (n * es)) (σ.kill b)).bind fun r => some (.sl (.loc (.f r.1) 0 es) n, r.2) else none
   | _ => none
  | .p (some (.n b, o)) =>
   match σ.blk b with
   | some (.cells true _ cs) => (frzL (frzV d) cs (σ.kill b)).bind fun r => some (.p (some (.f r.1, o)), r.2)
   | _ => none
  | .agg cs => (frzL (frzV d) cs σ).bind fun r => some (.agg r.1, r.2)
  | .tup cs => (frzL (frzV d) cs σ).bind fun r => some (.tup r.1, r.2)
  | v => some (v, σ)
def frz (s : Sm O) : Sm O := fun xs σ => (s xs σ).bind fun r => frzV 8 r.2 r.1
def FrzOK (RO : O → Loc → (Nat → Option Obj) → Prop) (P : Program) (F : AH O → AV → Option (AV × AH O)) : Prop :=
 ∀ σ v v' σ', F σ v = some (v', σ') → ∀ ρ fp w u (S : Nat → Prop), VRel ρ v u → Rel RO P ρ fp σ w → ∃ ρ' fp', VRel ρ' v' u ∧ (v.isOne = true → v'.isOne = true) ∧ Post RO P S ρ fp σ w ρ' fp' σ' w
theorem frzL_sound {F : AH O → AV → Option (AV × AH O)} (hF : FrzOK RO P F) : ∀ (vs : List AV) (σ : AH O) (vs' : List AV) (σ' : AH O), frzL F vs σ = some (vs', σ') → ∀ ρ fp w us (S : Nat → Prop), VRels ρ vs us → Rel RO P ρ fp σ w →
  ∃ ρ' fp', VRels ρ' vs' us ∧ (vs.all AV.isOne = true → vs'.all AV.isOne = true) ∧ Post RO P S ρ fp σ w ρ' fp' σ' w
 | [], σ, vs', σ', h, ρ, fp, w, us, S, hv, hr => by
  cases h
  exact ⟨ρ, fp, hv, fun h => h, Post.refl hr⟩
 | v :: vs, σ, vs', σ', h, ρ, fp, w, us, S, hv, hr => by
  simp only [frzL] at h
  obtain ⟨⟨v1, σ1⟩, h1, h⟩ := Option.bind_eq_some_iff.1 h
  obtain ⟨⟨vs2, σ2⟩, h2, h⟩ := Option.bind_eq_some_iff.1 h
  cases h
  cases hv with
  | cons _ u _ us g1 g2 =>
   obtain ⟨ρ1, fp1, a1, a2, a3⟩ := hF _ _ _ _ h1 ρ fp w u S g1 hr
   obtain ⟨ρ2, fp2, b1, b2, b3⟩ := frzL_sound hF vs _ _ _ h2 ρ1 fp1 w us S (g2.mono a3.le) a3.rel
   exact ⟨ρ2, fp2, .cons _ _ _ _ (a1.mono b3.le) b1, fun hh => by simp only [List.all_cons, Bool.and_eq_true] at hh ⊢; exact ⟨a2 hh.1, b2 hh.2⟩, a3.trans b3⟩
theorem frzV_sound : ∀ d : Nat, FrzOK RO P (frzV (O := O) d)
 | 0 => fun σ v v' σ' h => by cases h
 | d + 1 => fun σ v v' σ' h ρ fp w u S hv hr => by
  have same : some (v, σ) = some (v', σ') → ∃ ρ' fp', VRel ρ' v' u ∧ (v.isOne = true → v'.isOne = true) ∧ Post RO P S ρ fp σ w ρ' fp' σ' w := fun e => by
   cases e; exact ⟨ρ, fp, hv, fun h => h, Post.refl hr⟩
  unfold frzV at h
  split at h
  ·rename_i b o es n
   split at h
   ·rename_i el cs hb
    have hle := (bif_some h).1
    obtain ⟨⟨cs', σ2⟩, h1, h2⟩ := Option.bind_eq_some_iff.1 (bif_some h).2
    clear h same
    cases h2
    cases hv with
    | sl0 _ _ _ A =>
     obtain ⟨fp1, k1⟩ := Post.kill (S := S) hr b
     rw [Nat.zero_mul, List.take_zero] at h1
     cases h1
     exact ⟨ρ, fp1, .sl0 _ _ _ A, fun _ => rfl, k1⟩
    | sl _ _ _ cap L hL q1 q2 q3 =>
     obtain ⟨ρ1, fp1, k1, us, k2, k3, k4⟩ := Post.freeze (S := S) hr hb hL.n_inv
     obtain ⟨ρ2, fp2, m1, m2, m3⟩ := frzL_sound (frzV_sound d) _ _ _ _ h1 ρ1 fp1 w ((us.drop o).take (n * L.es)) S ((k2.drop o).take _) k1.rel
     refine ⟨ρ2, fp2, ?_, fun _ => rfl, k1.trans m3⟩
     have hs : Sits ρ2 (.f cs') ⟨L.B, L.O + o, L.size - o, L.es⟩ := .f cs' _ _ m1 (m2 (List.all_eq_true.2 fun x hx => List.all_eq_true.1 k3 x (List.mem_of_mem_drop (List.mem_of_mem_take hx)))) fun i u hu => m3.le.f _ _ _ (by
      rw [List.getElem?_take] at hu
      split at hu
      ·rw [List.getElem?_drop] at hu
       have := k4 _ _ hu
       rw [show L.O + o + i = L.O + (o + i) by omega]; exact this
      ·cases hu)
     have := VRel.sl (.f cs') 0 n cap _ hs q1 q2 (by simp only; omega)
     simpa using this
   ·cases h
  ·rename_i b o
   split at h
   ·rename_i el cs hb
    obtain ⟨⟨cs', σ2⟩, h1, h2⟩ := Option.bind_eq_some_iff.1 h
    clear h same
    cases h2
    cases hv with
    | p _ _ L hL =>
     obtain ⟨ρ1, fp1, k1, us, k2, k3, k4⟩ := Post.freeze (S := S) hr hb hL.n_inv
     obtain ⟨ρ2, fp2, m1, m2, m3⟩ := frzL_sound (frzV_sound d) _ _ _ _ h1 ρ1 fp1 w us S k2 k1.rel
     exact ⟨ρ2, fp2, .p _ _ L (.f cs' _ _ m1 (m2 k3) fun i u hu => m3.le.f _ _ _ (k4 i u hu)), fun _ => rfl, k1.trans m3⟩
   ·cases h
  ·rename_i cs
   obtain ⟨⟨cs', σ2⟩, h1, h2⟩ := Option.bind_eq_some_iff.1 h
   clear same
   cases h2
   obtain ⟨vs, rfl, g1, g2⟩ := hv.agg_inv
   obtain ⟨ρ2, fp2, m1, m2, m3⟩ := frzL_sound (frzV_sound d) _ _ _ _ h1 ρ fp w vs S g1 hr
   exact ⟨ρ2, fp2, .agg _ _ m1 (m2 g2), fun h => h, m3⟩
  ·rename_i cs
   obtain ⟨⟨cs', σ2⟩, h1, h2⟩ := Option.bind_eq_some_iff.1 h
   clear same
   cases h2
   obtain ⟨vs, rfl, g1⟩ := hv.tup_inv
   obtain ⟨ρ2, fp2, m1, m2, m3⟩ := frzL_sound (frzV_sound d) _ _ _ _ h1 ρ fp w vs S g1 hr
   exact ⟨ρ2, fp2, .tup _ _ m1, fun h => h, m3⟩
  ·exact same h
theorem FSound.frz {f : FuncId} {s : Sm O} (h : FSound RO P f s) : FSound RO P f (Abs.frz s) := by
 intro xs σ v σ' hs ρ fp w args hx hr
 obtain ⟨⟨v1, σ1⟩, h1, h2⟩ := Option.bind_eq_some_iff.1 hs
 refine (h xs σ v1 σ1 h1 ρ fp w args hx hr).mono ?_
 rintro x w' ⟨ρ', fp', u, rfl, hu, hp⟩
 obtain ⟨ρ2, fp2, m1, _, m3⟩ := frzV_sound 8 _ _ _ _ h2 ρ' fp' w' u (· < σ.next) hu hp.rel
 exact ⟨ρ2, fp2, u, rfl, m1, hp.trans m3⟩
def AV.flt : AV → Bool
 | .sl (.loc (.n _) _ _) _ => false
 | .agg cs => flts cs
 | .tup cs => flts cs
 | _ => true
where flts : List AV → Bool
 | [] => true
 | v :: vs => v.flt && flts vs
end Go.Abs
