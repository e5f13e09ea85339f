/-
  AbsRun: a function does what 'run' says.
-/
import Derived.Test.YteklninbijohcaaAbsExec
set_option linter.unusedVariables false
set_option linter.unusedSimpArgs false
set_option linter.constructorNameAsVariable false
namespace Go.Abs
open Go
variable {O : Type} {RO : O → Loc → (Nat → Option Obj) → Prop} {P : Program} {G : List (Nat × Sm O)} {n : Nat}

theorem argsK_spec : ∀ {R : Type} (tys : List Ty) (i : Nat) (xs : List AV) (e : Env) (K : Env → Option R) (r : R), argsK tys i xs e K = some r →
    ∃ e', K e' = some r ∧ ∀ t, e' t = e t ∨ (t < i + tys.length ∧ e' t = xs.getD t .u)
  | _, [], i, xs, e, K, r, h => ⟨e, h, fun _ => .inl rfl⟩
  | _, ty :: tys, i, xs, e, K, r, h => by
    simp only [argsK] at h
    have h := asTy_spec h
    obtain ⟨e', h1, h2⟩ := argsK_spec tys (i + 1) xs _ K r h
    refine ⟨e', h1, fun t => ?_⟩
    rcases h2 t with q | ⟨q1, q2⟩
    · rw [Env.set_get] at q
      by_cases ht : t = i
      · subst ht; rw [if_pos rfl] at q; exact .inr ⟨by simp, q⟩
      · rw [if_neg ht] at q; exact .inl q
    · exact .inr ⟨by simp; omega, q2⟩

def resSem (tmps : Array Value) (x : ResultVar) : Sem Value :=
  match x with
  | .tmp t => pure (tmps.getD t undef)
  | .cell q t => do loadVar t (← asAddr (tmps.getD q undef))

theorem resK_spec {ρ : Inj} {fp : Fp} {σ : AH O} {w : World} {e : Env} {a : Act} (he : EnvRel n ρ e a) (hrel : Rel RO P ρ fp σ w) : ∀ (rs : List ResultVar) (K : List AV → Option (AV × AH O)) (r : AV × AH O), resK P e σ rs K = some r →
    ∃ vs us, K vs = some r ∧ VRels ρ vs us ∧ (rs.mapM (resSem a.tmps)).run P w = .ok us w
  | [], K, r, h => ⟨[], [], h, .nil, by simp⟩
  | .tmp t :: rs, K, r, h => by
    simp only [resK] at h
    obtain ⟨vs, us, h1, h2, h3⟩ := resK_spec he hrel rs _ r h
    exact ⟨e t :: vs, a.tmps.getD t undef :: us, h1, .cons _ _ _ _ (he.get t) h2, by simp [List.mapM_cons, h3, resSem]⟩
  | .cell q t :: rs, K, r, h => by
    simp only [resK] at h
    have hq := he.get q
    obtain ⟨b, o, hb, h⟩ := asPS_spec h
    rw [hb] at hq
    obtain ⟨L, hL, uq⟩ := hq.p_inv
    obtain ⟨hty, h⟩ := bif_some h
    obtain ⟨v, u, hk, hr, _, hrun, _⟩ := loadT_sound hrel hL hty h
    obtain ⟨vs, us, h1, h2, h3⟩ := resK_spec he hrel rs _ r hk
    refine ⟨v :: vs, u :: us, h1, .cons _ _ _ _ hr h2, ?_⟩
    simp only [List.mapM_cons, Sem.run_bind, resSem, uq, asAddr, Sem.run_pure, Result.andThen_ok, hrun, h3]

/-- what is closed of a function's text -/
def fnOK (f : Func) : Bool :=
  match f.body with
  | some c => dstsOK f.ntmps c && Nat.ble (f.params.size + f.nfree) f.ntmps
  | none => false

theorem run_sound (hG : GSound RO P G) (hm : P.follows .mixedOrders = true) {f : FuncId} {fn : Func} (hf : P.funcs[f]? = some fn) (hok : fnOK fn = true) (an : Ann) : FSound RO P f (run P G fn an) := by
  intro xs σ v σ' h ρ fp w args hargs hrel
  unfold fnOK at hok
  unfold run at h
  cases hb : fn.body with
  | none => rw [hb] at hok; cases hok
  | some c =>
    rw [hb] at hok
    simp only [hb] at h
    simp only [Bool.and_eq_true] at hok
    obtain ⟨hd, hp⟩ := hok
    have hp := Nat.le_of_ble_eq_true hp
    obtain ⟨hlen, h⟩ := bif_some h
    have hlen := Nat.eq_of_beq_eq_true hlen
    have hal := hargs.length
    simp only [Array.length_toList] at hal
    refine calls_of_wp hf hb ?_
    obtain ⟨e', h1, h2⟩ := argsK_spec _ _ _ _ _ _ h
    obtain ⟨x, e1, σ1, g1, g2⟩ := exec_sound (n := fn.ntmps) hG hm c hd an e' σ _ _ h1
    have he : EnvRel fn.ntmps ρ e' { tmps := args ++ Array.replicate (fn.ntmps - args.size) undef, defers := [] } := by
      refine ⟨by simp; omega, fun t => ?_⟩
      rcases h2 t with q | ⟨q1, q2⟩
      · rw [q]; exact .u _
      · simp only [List.length_append, List.length_replicate, List.length_map, Array.length_toList, Nat.zero_add] at q1
        rw [q2]
        have ht : t < xs.length := by omega
        obtain ⟨u, hu, hr⟩ := hargs.get (List.getElem?_eq_getElem ht)
        have hu' : args[t]? = some u := by simpa using hu
        have ht2 : t < args.size := by omega
        have e1 : xs.getD t .u = xs[t] := by simp [List.getD, ht]
        have e2 : (args ++ Array.replicate (fn.ntmps - args.size) undef).getD t undef = u := by
          simp only [Array.getD_eq_getD_getElem?, Array.getElem?_append_left ht2, hu', Option.getD_some]
        rw [e1]; show VRel ρ _ ((args ++ Array.replicate (fn.ntmps - args.size) undef).getD t undef)
        rw [e2]; exact hr
    refine g2 ρ fp _ w he hrel _ fun a' w' ρ' fp' k1 k2 k3 k4 => ?_
    have fin : resK P e1 σ1 fn.results.toList (fun vs => some (oneOrTup vs, σ1)) = some (v, σ') → a'.defers = [] ∧ ∃ u, (results fn a'.tmps).run P w' = .ok u w' ∧ ∃ ρ' fp' u', Ending.returned u = .returned u' ∧ VRel ρ' v u' ∧ Post RO P (· < σ.next) ρ fp σ w ρ' fp' σ' w' := by
      intro hres
      obtain ⟨vs, us, q1, q2, q3⟩ := resK_spec k1 k4.rel _ _ _ hres
      simp only [Option.some.injEq, Prod.mk.injEq] at q1
      obtain ⟨rfl, rfl⟩ := q1
      have hl := q2.length
      refine ⟨k2, if h : us.toArray.size = 1 then us.toArray[0] else .tuple us.toArray, ?_, ρ', fp', _, rfl, ?_, k4⟩
      · have q4 : (fn.results.mapM (resSem a'.tmps)).run P w' = .ok us.toArray w' := by
          rw [Array.mapM_eq_mapM_toList, Sem.run_map, q3]; rfl
        show ((fn.results.mapM (resSem a'.tmps)) >>= fun vs => (pure (if h : vs.size = 1 then vs[0] else .tuple vs) : Sem Value)).run P w' = _
        rw [Sem.run_bind, q4]; rfl
      · match vs, us, q2, hl with
        | [], [], q2, _ => exact .tup _ _ q2
        | [v1], [u1], q2, _ =>
          cases q2 with
          | cons _ _ _ _ a1 a2 => exact a1
        | v1 :: v2 :: vs, u1 :: u2 :: us, q2, _ =>
          rw [dif_neg (by simp)]
          exact .tup _ _ q2
    cases x with
    | norm => exact fin g1
    | ret => exact fin g1
    | exit id => cases g1

theorem gnil : GSound RO P [] := fun _ _ h => by cases h
theorem gcons {f : FuncId} {s : Sm O} (h1 : Entered P f) (h2 : FSound RO P f s) (h : GSound RO P G) : GSound RO P ((f, s) :: G) := fun g t hm => by
  rcases List.mem_cons.1 hm with e | hm
  · cases e; exact .inl ⟨h1, h2⟩
  · exact h g t hm
theorem gext {f : FuncId} {s : Sm O} (h1 : ExternOK P f s) (h : GSound RO P G) : GSound RO P ((f, s) :: G) := fun g t hm => by
  rcases List.mem_cons.1 hm with e | hm
  · cases e; exact .inr h1
  · exact h g t hm
end Go.Abs
