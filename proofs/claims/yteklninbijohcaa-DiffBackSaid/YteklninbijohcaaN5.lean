/-
  Arguments that are never written again: how they are reckoned. No conditions.
-/
import Derived.Test.YteklninbijohcaaN4
set_option linter.unusedVariables false
set_option linter.unusedSimpArgs false
set_option linter.constructorNameAsVariable false
namespace Go.Abs
open Go
variable {O : Type}

theorem frzL_nil {F : AH O → AV → Option (AV × AH O)} {σ : AH O} : frzL F [] σ = some ([], σ) := rfl
theorem frzL_cons {F : AH O → AV → Option (AV × AH O)} {σ : AH O} {v : AV} {vs : List AV} : frzL F (v :: vs) σ = (F σ v).bind fun r => (frzL F vs r.2).bind fun q => some (r.1 :: q.1, q.2) := rfl
theorem frzA_flt {d : Nat} {σ : AH O} {v : AV} (h : v.flt = true) : frzA (d + 1) σ v = some (v, σ) := by unfold frzA; rw [h]; rfl
theorem frzL_flt {d : Nat} {σ : AH O} : ∀ {vs : List AV}, AV.flt.flts vs = true → frzL (frzA (d + 1)) vs σ = some (vs, σ)
  | [], _ => rfl
  | v :: vs, h => by
    simp only [AV.flt.flts, Bool.and_eq_true] at h
    rw [frzL_cons, frzA_flt h.1, Option.bind_some, frzL_flt h.2]; rfl
theorem frzA_sl {d : Nat} {σ : AH O} {b o es n el : Nat} {cs cs' : List AV} {σ' : AH O} (hn : n ≠ 0) (hb : σ.blk b = some (.cells true el cs)) (hl : o + n * es ≤ cs.length) (hc : frzL (frzA d) cs (σ.kill b) = some (cs', σ')) :
    frzA (d + 1) σ (.sl (.loc (.n b) o es) n) = some (.sl (.loc (.f ((cs'.drop o).take (n * es))) 0 es) n, σ'.put b (.cells false el cs')) := by
  unfold frzA
  simp only [AV.flt, cond_false, s_n1 hn, hb, s_room hl, cond_true, hc, Option.bind_some]
theorem frzA_slF {d : Nat} {σ : AH O} {b o es n el : Nat} {cs : List AV} (hn : n ≠ 0) (hb : σ.blk b = some (.cells false el cs)) (hl : o + n * es ≤ cs.length) :
    frzA (d + 1) σ (.sl (.loc (.n b) o es) n) = some (.sl (.loc (.f ((cs.drop o).take (n * es))) 0 es) n, σ) := by
  unfold frzA
  simp only [AV.flt, cond_false, s_n1 hn, hb, s_room hl, cond_true]
theorem frzA_agg {d : Nat} {σ σ' : AH O} {cs cs' : List AV} (hc : frzL (frzA (d + 1)) cs σ = some (cs', σ')) : frzA (d + 2) σ (.agg cs) = some (.agg cs', σ') := by
  by_cases h : (AV.agg cs).flt = true
  · rw [frzA_flt h]
    rw [frzL_flt (by simpa [AV.flt] using h)] at hc
    cases hc; rfl
  · unfold frzA
    simp only [Bool.not_eq_true] at h
    simp only [h, cond_false, hc, Option.bind_some]
theorem frzL_step {F : AH O → AV → Option (AV × AH O)} {σ σ1 σ2 : AH O} {v v' : AV} {vs vs' : List AV} (h1 : F σ v = some (v', σ1)) (h2 : frzL F vs σ1 = some (vs', σ2)) : frzL F (v :: vs) σ = some (v' :: vs', σ2) := by
  rw [frzL_cons, h1, Option.bind_some, h2]; rfl
theorem fza_eq {s : Sm O} {xs ys : List AV} {σ σ' : AH O} (h : frzL (frzA 8) xs σ = some (ys, σ')) : fza s xs σ = s ys σ' := by
  unfold fza; rw [h]; rfl
end Go.Abs
