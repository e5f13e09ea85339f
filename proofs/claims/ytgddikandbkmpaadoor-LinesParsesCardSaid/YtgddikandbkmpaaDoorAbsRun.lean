/-
  AbsRun: a function does what 'run' says.
-/
import Derived.Test.YtgddikandbkmpaaDoorAbsExec
set_option linter.unusedVariables false
set_option linter.unusedSimpArgs false
set_option linter.constructorNameAsVariable false
namespace Go.Abs
open Go
variable {O : Type} {RO : O → Loc → (Nat → Option Obj) → Prop} {P : Program} {G : List (Nat × Sm O)} {n : Nat}
theorem argsK_spec : ∀ {R : Type} (tys : List Ty) (i : Nat) (xs : List AV) (e : Env) (K : Env → Option R) (r : R), argsK tys i xs e K = some r →
  ∃ e', K e' = some r ∧ ∀ t, e' t = e t ∨ (t < i + tys.length ∧ e' t = xs.getD t .u)
 | _, [], i, xs, e, K, r, h => ⟨e, h, fun _ => .inl rfl⟩
 | _, ty :: tys, i, xs, e, K, r, h => by
  simp only [argsK] at h
  have h := asTy_spec h
  obtain ⟨e', h1, h2⟩ := argsK_spec tys (i + 1) xs _ K r h
  refine ⟨e', h1, fun t => ?_⟩
  rcases h2 t with q | ⟨q1, q2⟩
  ·rw [Env.set_get] at q
   by_cases ht : t = i
   ·subst ht; rw [if_pos rfl] at q; exact .inr ⟨by simp, q⟩
   ·rw [if_neg ht] at q; exact .inl q
  ·exact .inr ⟨by simp; omega, q2⟩
def resSem (tmps : Array Value) (x : ResultVar) : Sem Value :=
 match x with
 | .tmp t => pure (tmps.getD t undef)
 | .cell q t => do loadVar t (← asAddr (tmps.getD q undef))
theorem resK_spec {ρ : Inj} {fp : Fp} {σ : AH O} {w : World} {e : Env} {a : Act} (he : EnvRel n ρ e a) (hrel : Rel RO P ρ fp σ w) : ∀ (rs : List ResultVar) (K : List AV → Option (AV × AH O)) (r : AV × AH O), resK P e σ rs K = some r →
  ∃ vs us, K vs = some r ∧ VRels ρ vs us ∧ (rs.mapM (resSem a.tmps)).run P w = .ok us w
 | [], K, r, h => ⟨[], [], h, .nil, by simp⟩
 | .tmp t :: rs, K, r, h => by
  simp only [resK] at h
  obtain ⟨vs, us, h1, h2, h3⟩ := resK_spec he hrel rs _ r h
  exact ⟨e t :: vs, a.tmps.getD t undef :: us, h1, .cons _ _ _ _ (he.get t) h2, by simp [List.mapM_cons, h3, resSem]⟩
 | .cell q t :: rs, K, r, h => by
  simp only [resK] at h
  have hq := he.get q
  obtain ⟨b, o, hb, h⟩ := asPS_spec h
  rw [hb] at hq
  obtain ⟨L, hL, uq⟩ := hq.p_inv
  obtain ⟨hty, h⟩ := bif_some h
  obtain ⟨v, u, hk, hr, _, hrun, _⟩ := loadT_sound hrel hL hty h
  obtain ⟨vs, us, h1, h2, h3⟩ := resK_spec he hrel rs _ r hk
  refine ⟨v :: vs, u :: us, h1, .cons _ _ _ _ hr h2, ?_⟩
  simp only [List.mapM_cons, Sem.run_bind, resSem, uq, asAddr, Sem.run_pure, Result.andThen_ok, hrun, h3]
def fnOK (f : Func) : Bool :=
 match f.body with
 | some c => dstsOK f.ntmps c && Nat.ble (f.params.size + f.nfree) f.ntmps && plain c
 | none => false
theorem annSites_plain : ∀ (c : Code) (an : Ann), plain c = true → annSites c an = []
 | .skip, _, _ => rfl
 | .label _, _, _ => rfl
 | .exit _, _, _ => rfl
 | .ret, _, _ => rfl
 | .region _ _ _, _, _ => rfl
 | .goto _, _, _ => rfl
 | .refuse _, _, _ => rfl
 | .seq a b, an, h => by
  simp only [plain, Bool.and_eq_true] at h
  simp only [annSites, annSites_plain a an.l h.1, annSites_plain b an.r h.2, List.append_nil]
 | .cond _ a b, an, h => by
  simp only [plain, Bool.and_eq_true] at h
  simp only [annSites, annSites_plain a an.l h.1, annSites_plain b an.r h.2, List.append_nil]
 | .block _ c, an, h => by
  simp only [plain] at h
  simp only [annSites, annSites_plain c an.l h]
 | .loop c, an, h => by
  simp only [plain] at h
  unfold annSites
  split
  ·exact annSites_plain c _ h
  ·exact annSites_plain c _ h
  ·rfl
 | .scope c, an, h => by
  simp only [plain] at h
  simp only [annSites, annSites_plain c an.l h]
 | .rangeFunc _ _ _ _, _, h => by simp [plain] at h
theorem Rel.mark {ρ : Inj} {fp : Fp} {σ : AH O} {w : World} (h : Rel RO P ρ fp σ w) {r : Nat} {ob : Obj} (h1 : w.heap[r]? = some (.deferred (some []))) (h2 : ∀ b, fp b r = none) : Rel RO P ρ fp σ (w.putObj r ob) where
 next := h.next
 blk := fun b x L hx hL => (h.blk b x L hx hL).mono (Inj.le_refl _)
 dead := h.dead
 has := fun b B o hb => by
  rw [World.putObj_heap_other fun e => by rw [e, h2 b] at hb; cases hb]; exact h.has b B o hb
 disj := h.disj
 fz := fun B o u hu => by
  obtain ⟨g1, g2⟩ := h.fz B o u hu
  refine ⟨?_, g2⟩
  rw [World.cell?_of_block (w := w) (World.putObj_heap_other fun e => ?_)]
  ·exact g1
  ·subst e; simp [World.cell?, h1] at g1
theorem leaves_marks {fn : Func} {tmps : Array Value} {R : Ending → World → Prop} {B0 : Nat} {fp0 : Fp} {w0 : World} {ρ : Inj} {fp : Fp} {σ : AH O}
  (hB : w0.heap.size ≤ B0) (fin : ∀ w', Rel RO P ρ fp σ w' → Fr fp0 w0 w' → ∃ v, (results fn tmps).run P w' = .ok v w' ∧ R (.returned v) w') :
  ∀ (ds : List Deferred) (w : World), Marks B0 fp w ds → Rel RO P ρ fp σ w → Fr fp0 w0 w → LeavesInM (Fw none) 0 P fn tmps R ds .returning w
 | [], w, _, hr, hf => fin w hr hf
 | d :: ds, w, hm, hr, hf => by
  obtain ⟨r, h1, h2, h3, h4⟩ := hm.it d (List.mem_cons_self ..)
  have hlt := (Array.getElem?_eq_some_iff.1 h3).1
  refine ⟨by simp, .inl ⟨r, w.putObj r (.deferred none), h1, run_takeDeferred h3, ?_⟩⟩
  have hnd := hm.nd
  simp only [List.map_cons, List.nodup_cons] at hnd
  refine leaves_marks hB fin ds _ ⟨by simpa using hm.sz, hnd.2, fun d' hd' => ?_⟩ (Rel.mark hr h3 h4) ⟨hf.os, hf.tape, hf.output, by simpa using hf.size, fun B hB' hn => ?_⟩
  ·obtain ⟨r', k1, k2, k3, k4⟩ := hm.it d' (List.mem_cons_of_mem _ hd')
   refine ⟨r', k1, k2, ?_, k4⟩
   rw [World.putObj_heap_other fun e => hnd.1 (List.mem_map.2 ⟨d', hd', by rw [k1, h1, e]⟩)]
   exact k3
  ·rw [World.putObj_heap_other fun e => by omega]
   exact hf.keep B hB' hn
theorem run_soundA (hG : GSound RO P G) (hm : P.follows .mixedOrders = true) {f : FuncId} {fn : Func} {c : Code} (hf : P.funcs[f]? = some fn) (hb : fn.body = some c) (hd : dstsOK fn.ntmps c = true) (hp : fn.params.size + fn.nfree ≤ fn.ntmps) (an : Ann)
  (hs : ∀ p, p ∈ annSites c an → siteOf P p.1 = some p.2) : FSound RO P f (run P G fn an) := by
 intro xs σ v σ' h ρ fp w args hargs hrel
 unfold run at h
 simp only [hb] at h
 obtain ⟨hlen, h⟩ := bif_some h
 have hlen := Nat.eq_of_beq_eq_true hlen
 have hal := hargs.length
 simp only [Array.length_toList] at hal
 refine callsIn_fw.1 (callsIn_of_wp_marks (F := Fw none) (n := 0) hf hb trivial ?_)
 obtain ⟨e', h1, h2⟩ := argsK_spec _ _ _ _ _ _ h
 obtain ⟨x, e1, σ1, g1, g2⟩ := exec_sound (n := fn.ntmps) (ro := none) hG hm c hd (.inl rfl) an hs e' σ _ _ h1
 have he : EnvRel fn.ntmps ρ e' { tmps := args ++ Array.replicate (fn.ntmps - args.size) undef, defers := [] } := by
  refine ⟨by simp; omega, fun t => ?_⟩
  rcases h2 t with q | ⟨q1, q2⟩
  ·rw [q]; exact .u _
  ·simp only [List.length_append, List.length_replicate, List.length_map, Array.length_toList, Nat.zero_add] at q1
   rw [q2]
   have ht : t < xs.length := by omega
   obtain ⟨u, hu, hr⟩ := hargs.get (List.getElem?_eq_getElem ht)
   have hu' : args[t]? = some u := by simpa using hu
   have ht2 : t < args.size := by omega
   have e1 : xs.getD t .u = xs[t] := by simp [List.getD, ht]
   have e2 : (args ++ Array.replicate (fn.ntmps - args.size) undef).getD t undef = u := by
    simp only [Array.getD_eq_getD_getElem?, Array.getElem?_append_left ht2, hu', Option.getD_some]
   rw [e1]; show VRel ρ _ ((args ++ Array.replicate (fn.ntmps - args.size) undef).getD t undef)
   rw [e2]; exact hr
 refine g2 ρ fp _ w he hrel _ fun a' w' ρ' fp' k1 k2 k3 k4 => ?_
 have hmk := k2 w.heap.size ⟨Nat.le_refl _, by simp, fun d hd' => by cases hd'⟩
 have fin : resK P e1 σ1 fn.results.toList (fun vs => some (oneOrTup vs, σ1)) = some (v, σ') → ∀ R : Ending → World → Prop, (R = fun x w' => ∃ ρ' fp' u, x = .returned u ∧ VRel ρ' v u ∧ Post RO P (· < σ.next) ρ fp σ w ρ' fp' σ' w') → LeavesInM (Fw none) 0 P fn a'.tmps R a'.defers .returning w' := by
  intro hres R hR
  have hfin : ∀ w'', Rel RO P ρ' fp' σ1 w'' → Fr fp w w'' → ∃ u, (results fn a'.tmps).run P w'' = .ok u w'' ∧ R (.returned u) w'' := by
   intro w'' hr'' hf''
   obtain ⟨vs, us, q1, q2, q3⟩ := resK_spec k1 hr'' _ _ _ hres
   simp only [Option.some.injEq, Prod.mk.injEq] at q1
   obtain ⟨rfl, rfl⟩ := q1
   have hl := q2.length
   have k4' : Post RO P (· < σ.next) ρ fp σ w ρ' fp' σ1 w'' := ⟨hr'', hf'', k4.grow, k4.gro, k4.le, k4.ext, k4.blank, k4.next⟩
   subst hR
   refine ⟨if h : us.toArray.size = 1 then us.toArray[0] else .tuple us.toArray, ?_, ρ', fp', _, rfl, ?_, k4'⟩
   ·have q4 : (fn.results.mapM (resSem a'.tmps)).run P w'' = .ok us.toArray w'' := by
     rw [Array.mapM_eq_mapM_toList, Sem.run_map, q3]; rfl
    show ((fn.results.mapM (resSem a'.tmps)) >>= fun vs => (pure (if h : vs.size = 1 then vs[0] else .tuple vs) : Sem Value)).run P w'' = _
    rw [Sem.run_bind, q4]; rfl
   ·match vs, us, q2, hl with
    | [], [], q2, _ => exact .tup _ _ q2
    | [v1], [u1], q2, _ =>
     cases q2 with
     | cons _ _ _ _ a1 a2 => exact a1
    | v1 :: v2 :: vs, u1 :: u2 :: us, q2, _ =>
     rw [dif_neg (by simp)]
     exact .tup _ _ q2
  exact leaves_marks (B0 := w.heap.size) (fp0 := fp) (w0 := w) (Nat.le_refl _) hfin a'.defers w' hmk k4.rel k4.fr
 cases x with
 | norm => exact fin g1 _ rfl
 | ret => exact fin g1 _ rfl
 | exit id => cases g1
theorem run_sound (hG : GSound RO P G) (hm : P.follows .mixedOrders = true) {f : FuncId} {fn : Func} (hf : P.funcs[f]? = some fn) (hok : fnOK fn = true) (an : Ann) : FSound RO P f (run P G fn an) := by
 unfold fnOK at hok
 cases hb : fn.body with
 | none => rw [hb] at hok; cases hok
 | some c =>
  rw [hb] at hok
  simp only [Bool.and_eq_true] at hok
  exact run_soundA hG hm hf hb hok.1.1 (Nat.le_of_ble_eq_true hok.1.2) an (fun p hp => by rw [annSites_plain c an hok.2] at hp; cases hp)
theorem gnil : GSound RO P [] := fun _ _ h => by cases h
theorem gcons {f : FuncId} {s : Sm O} (h1 : Entered P f) (h2 : FSound RO P f s) (h : GSound RO P G) (hf : f < yKey := by decide) : GSound RO P ((f, s) :: G) := fun g t hm => by
 rcases List.mem_cons.1 hm with e | hm
 ·cases e; exact .inl ⟨hf, h1, h2⟩
 ·exact h g t hm
theorem YSound.or {a b : Sm O} (ha : YSound RO P a) (hb : YSound RO P b) : YSound RO P (orR a b) := by
 intro k o ys σ v σ' h
 unfold orR at h
 split at h
 ·rename_i r hr; cases h; exact ha k o ys σ v σ' hr
 ·exact hb k o ys σ v σ' h
end Go.Abs
