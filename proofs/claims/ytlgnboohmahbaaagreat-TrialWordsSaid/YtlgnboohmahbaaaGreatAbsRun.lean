/-
  AbsRun: a function does what 'run' says.
-/
import Derived.Test.YtlgnboohmahbaaaGreatAbsExec
set_option linter.unusedVariables false
set_option linter.unusedSimpArgs false
set_option linter.constructorNameAsVariable false
namespace Go.Abs
open Go
variable {O : Type} {RO : O → Loc → (Nat → Option Obj) → Prop} {P : Program} {G : List (Nat × Sm O)} {n : Nat}
theorem argsK_spec : ∀ {R : Type} (tys : List Ty) (i : Nat) (xs : List AV) (e : Env) (K : Env → Option R) (r : R), argsK tys i xs e K = some r →
  ∃ e', K e' = some r ∧ ∀ t, e' t = e t ∨ (t < i + tys.length ∧ e' t = xs.getD t .u)
 | _, [], i, xs, e, K, r, h => ⟨e, h, fun _ => .inl rfl⟩
 | _, ty :: tys, i, xs, e, K, r, h => by
  simp only [argsK] at h
  have h := asTy_spec h
  obtain ⟨e', h1, h2⟩ := argsK_spec tys (i + 1) xs _ K r h
  refine ⟨e', h1, fun t => ?_⟩
  rcases h2 t with q | ⟨q1, q2⟩
  ·rw [Env.set_get] at q
   by_cases ht : t = i
   ·subst ht; rw [if_pos rfl] at q; exact .inr ⟨by simp, q⟩
   ·rw [if_neg ht] at q; exact .inl q
  ·exact .inr ⟨by simp; omega, q2⟩
def resSem (tmps : Array Value) (x : ResultVar) : Sem Value :=
 match x with
 | .tmp t => pure (tmps.getD t undef)
 | .cell q t => do loadVar t (← asAddr (tmps.getD q undef))
theorem resK_spec {ρ : Inj} {fp : Fp} {σ : AH O} {w : World} {e : Env} {a : Act} (he : EnvRel n ρ e a) (hrel : Rel RO P ρ fp σ w) : ∀ (rs : List ResultVar) (K : List AV → Option (AV × AH O)) (r : AV × AH O), resK P e σ rs K = some r →
  ∃ vs us, K vs = some r ∧ VRels ρ vs us ∧ (rs.mapM (resSem a.tmps)).run P w = .ok us w
 | [], K, r, h => ⟨[], [], h, .nil, by simp⟩
 | .tmp t :: rs, K, r, h => by
  simp only [resK] at h
  obtain ⟨vs, us, h1, h2, h3⟩ := resK_spec he hrel rs _ r h
  exact ⟨e t :: vs, a.tmps.getD t undef :: us, h1, .cons _ _ _ _ (he.get t) h2, by simp [List.mapM_cons, h3, resSem]⟩
 | .cell q t :: rs, K, r, h => by
  simp only [resK] at h
  have hq := he.get q
  obtain ⟨b, o, hb, h⟩ := asPS_spec h
  rw [hb] at hq
  obtain ⟨L, hL, uq⟩ := hq.p_inv
  obtain ⟨hty, h⟩ := bif_some h
  obtain ⟨v, u, hk, hr, _, hrun, _⟩ := loadT_sound hrel hL hty h
  obtain ⟨vs, us, h1, h2, h3⟩ := resK_spec he hrel rs _ r hk
  refine ⟨v :: vs, u :: us, h1, .cons _ _ _ _ hr h2, ?_⟩
  simp only [List.mapM_cons, Sem.run_bind, resSem, uq, asAddr, Sem.run_pure, Result.andThen_ok, hrun, h3]
def fnOK (f : Func) : Bool :=
 match f.body with
 | some c => dstsOK f.ntmps c && Nat.ble (f.params.size + f.nfree) f.ntmps && plain c
 | none => false
def fnOKR (f : Func) : Bool :=
 match f.body with
 | some c => dstsOK f.ntmps c && Nat.ble (f.params.size + f.nfree) f.ntmps && Nat.blt (sitesOf c).length 1000
 | none => false
def numS : Nat → List (Array Tmp × Code × Code) → List (Nat × (Array Tmp × Code × Code))
 | _, [] => []
 | s, x :: xs => (s, x) :: numS (s + 1) xs
theorem numS_spec : ∀ (xs : List (Array Tmp × Code × Code)) (s : Nat) (p : Nat × (Array Tmp × Code × Code)), p ∈ numS s xs → ∃ k, k < xs.length ∧ p.1 = s + k ∧ xs[k]? = some p.2
 | [], _, _, h => by cases h
 | x :: xs, s, p, h => by
  rcases List.mem_cons.1 h with e | h
  ·subst e; exact ⟨0, by simp, rfl, rfl⟩
  ·obtain ⟨k, h1, h2, h3⟩ := numS_spec xs (s + 1) p h
   exact ⟨k + 1, by simp; omega, by rw [h2]; omega, by simpa using h3⟩
theorem annSites_plain : ∀ (c : Code) (an : Ann), plain c = true → annSites c an = []
 | .skip, _, _ => rfl
 | .label _, _, _ => rfl
 | .exit _, _, _ => rfl
 | .ret, _, _ => rfl
 | .region _ _ _, _, _ => rfl
 | .goto _, _, _ => rfl
 | .refuse _, _, _ => rfl
 | .seq a b, an, h => by
  simp only [plain, Bool.and_eq_true] at h
  simp only [annSites, annSites_plain a an.l h.1, annSites_plain b an.r h.2, List.append_nil]
 | .cond _ a b, an, h => by
  simp only [plain, Bool.and_eq_true] at h
  simp only [annSites, annSites_plain a an.l h.1, annSites_plain b an.r h.2, List.append_nil]
 | .block _ c, an, h => by
  simp only [plain] at h
  simp only [annSites, annSites_plain c an.l h]
 | .loop c, an, h => by
  simp only [plain] at h
  unfold annSites
  split
  ·exact annSites_plain c _ h
  ·exact annSites_plain c _ h
  ·rfl
 | .scope c, an, h => by
  simp only [plain] at h
  simp only [annSites, annSites_plain c an.l h]
 | .rangeFunc _ _ _ _, _, h => by simp [plain] at h
theorem Rel.mark {ρ : Inj} {fp : Fp} {σ : AH O} {w : World} (h : Rel RO P ρ fp σ w) {r : Nat} {ob : Obj} (h1 : w.heap[r]? = some (.deferred (some []))) (h2 : ∀ b, fp b r = none) : Rel RO P ρ fp σ (w.putObj r ob) where
 next := h.next
 blk := fun b x L hx hL => (h.blk b x L hx hL).mono (Inj.le_refl _)
 dead := h.dead
 has := fun b B o hb => by
  rw [World.putObj_heap_other fun e => by rw [e, h2 b] at hb; cases hb]; exact h.has b B o hb
 disj := h.disj
 fz := fun B o u hu => by
  obtain ⟨g1, g2⟩ := h.fz B o u hu
  refine ⟨?_, g2⟩
  rw [World.cell?_of_block (w := w) (World.putObj_heap_other fun e => ?_)]
  ·exact g1
  ·subst e; simp [World.cell?, h1] at g1
theorem leaves_marks {fn : Func} {tmps : Array Value} {R : Ending → World → Prop} {B0 : Nat} {fp0 : Fp} {w0 : World} {ρ : Inj} {fp : Fp} {σ : AH O}
  (hB : w0.heap.size ≤ B0) (fin : ∀ w', Rel RO P ρ fp σ w' → Fr fp0 w0 w' → ∃ v, (results fn tmps).run P w' = .ok v w' ∧ R (.returned v) w') :
  ∀ (ds : List Deferred) (w : World), Marks B0 fp w ds → Rel RO P ρ fp σ w → Fr fp0 w0 w → LeavesInM (Fw none) 0 P fn tmps R ds .returning w
 | [], w, _, hr, hf => fin w hr hf
 | d :: ds, w, hm, hr, hf => by
  obtain ⟨r, h1, h2, h3, h4⟩ := hm.it d (List.mem_cons_self ..)
  have hlt := (Array.getElem?_eq_some_iff.1 h3).1
  refine ⟨by simp, .inl ⟨r, w.putObj r (.deferred none), h1, run_takeDeferred h3, ?_⟩⟩
  have hnd := hm.nd
  simp only [List.map_cons, List.nodup_cons] at hnd
  refine leaves_marks hB fin ds _ ⟨by simpa using hm.sz, hnd.2, fun d' hd' => ?_⟩ (Rel.mark hr h3 h4) ⟨hf.os, hf.tape, hf.output, by simpa using hf.size, fun B hB' hn => ?_⟩
  ·obtain ⟨r', k1, k2, k3, k4⟩ := hm.it d' (List.mem_cons_of_mem _ hd')
   refine ⟨r', k1, k2, ?_, k4⟩
   rw [World.putObj_heap_other fun e => hnd.1 (List.mem_map.2 ⟨d', hd', by rw [k1, h1, e]⟩)]
   exact k3
  ·rw [World.putObj_heap_other fun e => by omega]
   exact hf.keep B hB' hn
theorem run_soundA (hG : GSound RO P G) (hm : P.follows .mixedOrders = true) {f : FuncId} {fn : Func} {c : Code} (hf : P.funcs[f]? = some fn) (hb : fn.body = some c) (hd : dstsOK fn.ntmps c = true) (hp : fn.params.size + fn.nfree ≤ fn.ntmps) (an : Ann)
  (hs : ∀ p, p ∈ annSites c an → siteOf P p.1 = some p.2) : FSound RO P f (run P G fn an) := by
 intro xs σ v σ' h ρ fp w args hargs hrel
 unfold run at h
 simp only [hb] at h
 obtain ⟨hlen, h⟩ := bif_some h
 have hlen := Nat.eq_of_beq_eq_true hlen
 have hal := hargs.length
 simp only [Array.length_toList] at hal
 refine callsIn_fw.1 (callsIn_of_wp_marks (F := Fw none) (n := 0) hf hb trivial ?_)
 obtain ⟨e', h1, h2⟩ := argsK_spec _ _ _ _ _ _ h
 obtain ⟨x, e1, σ1, g1, g2⟩ := exec_sound (n := fn.ntmps) (ro := none) hG hm c hd (.inl rfl) an hs e' σ _ _ h1
 have he : EnvRel fn.ntmps ρ e' { tmps := args ++ Array.replicate (fn.ntmps - args.size) undef, defers := [] } := by
  refine ⟨by simp; omega, fun t => ?_⟩
  rcases h2 t with q | ⟨q1, q2⟩
  ·rw [q]; exact .u _
  ·simp only [List.length_append, List.length_replicate, List.length_map, Array.length_toList, Nat.zero_add] at q1
   rw [q2]
   have ht : t < xs.length := by omega
   obtain ⟨u, hu, hr⟩ := hargs.get (List.getElem?_eq_getElem ht)
   have hu' : args[t]? = some u := by simpa using hu
   have ht2 : t < args.size := by omega
   have e1 : xs.getD t .u = xs[t] := by simp [List.getD, ht]
   have e2 : (args ++ Array.replicate (fn.ntmps - args.size) undef).getD t undef = u := by
    simp only [Array.getD_eq_getD_getElem?, Array.getElem?_append_left ht2, hu', Option.getD_some]
   rw [e1]; show VRel ρ _ ((args ++ Array.replicate (fn.ntmps - args.size) undef).getD t undef)
   rw [e2]; exact hr
 refine g2 ρ fp _ w he hrel _ fun a' w' ρ' fp' k1 k2 k3 k4 => ?_
 have hmk := k2 w.heap.size ⟨Nat.le_refl _, by simp, fun d hd' => by cases hd'⟩
 have fin : resK P e1 σ1 fn.results.toList (fun vs => some (oneOrTup vs, σ1)) = some (v, σ') → ∀ R : Ending → World → Prop, (R = fun x w' => ∃ ρ' fp' u, x = .returned u ∧ VRel ρ' v u ∧ Post RO P (· < σ.next) ρ fp σ w ρ' fp' σ' w') → LeavesInM (Fw none) 0 P fn a'.tmps R a'.defers .returning w' := by
  intro hres R hR
  have hfin : ∀ w'', Rel RO P ρ' fp' σ1 w'' → Fr fp w w'' → ∃ u, (results fn a'.tmps).run P w'' = .ok u w'' ∧ R (.returned u) w'' := by
   intro w'' hr'' hf''
   obtain ⟨vs, us, q1, q2, q3⟩ := resK_spec k1 hr'' _ _ _ hres
   simp only [Option.some.injEq, Prod.mk.injEq] at q1
   obtain ⟨rfl, rfl⟩ := q1
   have hl := q2.length
   have k4' : Post RO P (· < σ.next) ρ fp σ w ρ' fp' σ1 w'' := ⟨hr'', hf'', k4.grow, k4.gro, k4.le, k4.ext, k4.blank, k4.next⟩
   subst hR
   refine ⟨if h : us.toArray.size = 1 then us.toArray[0] else .tuple us.toArray, ?_, ρ', fp', _, rfl, ?_, k4'⟩
   ·have q4 : (fn.results.mapM (resSem a'.tmps)).run P w'' = .ok us.toArray w'' := by
     rw [Array.mapM_eq_mapM_toList, Sem.run_map, q3]; rfl
    show ((fn.results.mapM (resSem a'.tmps)) >>= fun vs => (pure (if h : vs.size = 1 then vs[0] else .tuple vs) : Sem Value)).run P w'' = _
    rw [Sem.run_bind, q4]; rfl
   ·match vs, us, q2, hl with
    | [], [], q2, _ => exact .tup _ _ q2
    | [v1], [u1], q2, _ =>
     cases q2 with
     | cons _ _ _ _ a1 a2 => exact a1
    | v1 :: v2 :: vs, u1 :: u2 :: us, q2, _ =>
     rw [dif_neg (by simp)]
     exact .tup _ _ q2
  exact leaves_marks (B0 := w.heap.size) (fp0 := fp) (w0 := w) (Nat.le_refl _) hfin a'.defers w' hmk k4.rel k4.fr
 cases x with
 | norm => exact fin g1 _ rfl
 | ret => exact fin g1 _ rfl
 | exit id => cases g1
theorem run_sound (hG : GSound RO P G) (hm : P.follows .mixedOrders = true) {f : FuncId} {fn : Func} (hf : P.funcs[f]? = some fn) (hok : fnOK fn = true) (an : Ann) : FSound RO P f (run P G fn an) := by
 unfold fnOK at hok
 cases hb : fn.body with
 | none => rw [hb] at hok; cases hok
 | some c =>
  rw [hb] at hok
  simp only [Bool.and_eq_true] at hok
  exact run_soundA hG hm hf hb hok.1.1 (Nat.le_of_ble_eq_true hok.1.2) an (fun p hp => by rw [annSites_plain c an hok.2] at hp; cases hp)
theorem run_soundR (hG : GSound RO P G) (hm : P.follows .mixedOrders = true) {f : FuncId} {fn : Func} (hf : P.funcs[f]? = some fn) (hok : fnOKR fn = true) (an : Ann) (hs : (match fn.body with | some c => annSites c an | none => []) = numS (f * 1000) (match fn.body with | some c => sitesOf c | none => [])) : FSound RO P f (run P G fn an) := by
 unfold fnOKR at hok
 cases hb : fn.body with
 | none => rw [hb] at hok; cases hok
 | some c =>
  rw [hb] at hok
  simp only [hb] at hs
  simp only [Bool.and_eq_true] at hok
  refine run_soundA hG hm hf hb hok.1.1 (Nat.le_of_ble_eq_true hok.1.2) an (fun p hp => ?_)
  rw [hs] at hp
  obtain ⟨k, h1, h2, h3⟩ := numS_spec _ _ _ hp
  have hk : k < 1000 := Nat.lt_trans h1 (Nat.le_of_ble_eq_true hok.2)
  have e1 : (f * 1000 + k) / 1000 = f := by rw [Nat.mul_comm, Nat.mul_add_div (by decide), Nat.div_eq_of_lt hk]; rfl
  have e2 : (f * 1000 + k) % 1000 = k := by rw [Nat.mul_comm, Nat.mul_add_mod, Nat.mod_eq_of_lt hk]
  unfold siteOf
  rw [h2, e1, e2, hf]
  simp [hb, h3]
theorem gnil : GSound RO P [] := fun _ _ h => by cases h
theorem gcons {f : FuncId} {s : Sm O} (h1 : Entered P f) (h2 : FSound RO P f s) (h : GSound RO P G) (hf : f < yKey := by decide) : GSound RO P ((f, s) :: G) := fun g t hm => by
 rcases List.mem_cons.1 hm with e | hm
 ·cases e; exact .inl ⟨hf, h1, h2⟩
 ·exact h g t hm
theorem gext {f : FuncId} {s : Sm O} (h1 : ExternOK P f s) (h : GSound RO P G) (hf : f < yKey := by decide) : GSound RO P ((f, s) :: G) := fun g t hm => by
 rcases List.mem_cons.1 hm with e | hm
 ·cases e; exact .inr (.inl ⟨hf, h1⟩)
 ·exact h g t hm
theorem gyld {s : Sm O} (h1 : YSound RO P s) (h : GSound RO P G) : GSound RO P ((yKey, s) :: G) := fun g t hm => by
 rcases List.mem_cons.1 hm with e | hm
 ·cases e; exact .inr (.inr (.inl ⟨rfl, h1⟩))
 ·exact h g t hm
theorem grf {c : FuncId} {s : Sm O} (h1 : Entered P c) (h2 : FSound RO P c s) (h : GSound RO P G) : GSound RO P ((c + rKey, s) :: G) := fun g t hm => by
 rcases List.mem_cons.1 hm with e | hm
 ·cases e; exact .inr (.inr (.inr ⟨c, rfl, h1, h2⟩))
 ·exact h g t hm
theorem distinct_spec : ∀ {l : List Nat}, distinct l = true → l.Nodup
 | [], _ => List.nodup_nil
 | t :: ts, h => by
  simp only [distinct, Bool.and_eq_true, Bool.not_eq_true'] at h
  exact List.nodup_cons.2 ⟨fun hm => (by rw [List.elem_eq_true_of_mem hm] at h; cases h.1), distinct_spec h.2⟩
theorem foldl_set_ne {t : Nat} : ∀ (ts : List Nat) (us : List Value) (tmps : Array Value), t ∉ ts → ((ts.zip us).foldl (fun tmps (t, a) => tmps.setIfInBounds t a) tmps).getD t undef = tmps.getD t undef
 | [], _, _, _ => by simp
 | _ :: _, [], _, _ => by simp
 | q :: ts, u :: us, tmps, h => by
  simp only [List.zip_cons_cons, List.foldl_cons]
  rw [foldl_set_ne ts us _ fun hm => h (List.mem_cons_of_mem _ hm)]
  have : q ≠ t := fun e => h (by simp [e])
  simp [Array.getD_eq_getD_getElem?, Array.getElem?_setIfInBounds_ne this]
theorem foldl_set_size : ∀ (ts : List Nat) (us : List Value) (tmps : Array Value), ((ts.zip us).foldl (fun tmps (t, a) => tmps.setIfInBounds t a) tmps).size = tmps.size
 | [], _, _ => by simp
 | _ :: _, [], _ => by simp
 | q :: ts, u :: us, tmps => by
  simp only [List.zip_cons_cons, List.foldl_cons]
  rw [foldl_set_size ts us]; simp
theorem foldl_set_eq {n : Nat} : ∀ (ts : List Nat) (us : List Value) (tmps : Array Value), tmps.size = n → (∀ t ∈ ts, t < n) → ts.Nodup → ∀ (j t : Nat) (u : Value), ts[j]? = some t → us[j]? = some u → ((ts.zip us).foldl (fun tmps (t, a) => tmps.setIfInBounds t a) tmps).getD t undef = u
 | [], _, _, _, _, _, j, t, u, h, _ => by simp at h
 | _ :: _, [], _, _, _, _, j, t, u, _, h => by simp at h
 | q :: ts, v :: us, tmps, hn, hb, hd, j, t, u, h1, h2 => by
  simp only [List.zip_cons_cons, List.foldl_cons]
  have hd := List.nodup_cons.1 hd
  cases j with
  | zero =>
   simp only [List.getElem?_cons_zero, Option.some.injEq] at h1 h2
   subst h1; subst h2
   rw [foldl_set_ne ts us _ hd.1]
   have : q < tmps.size := by rw [hn]; exact hb q (List.mem_cons_self ..)
   simp [Array.getD_eq_getD_getElem?, this]
  | succ j =>
   exact foldl_set_eq ts us _ (by simpa using hn) (fun t ht => hb t (List.mem_cons_of_mem _ ht)) hd.2 j t u (by simpa using h1) (by simpa using h2)
theorem envOf_spec {ρ : Inj} {tmps : Array Value} : ∀ (l : List (Nat × AV)), (∀ t v, (t, v) ∈ l → VRel ρ v (tmps.getD t undef)) → ∀ t, VRel ρ (envOf l t) (tmps.getD t undef)
 | [], _, t => .u _
 | (q, v) :: l, h, t => by
  simp only [envOf]
  cases hq : Nat.beq t q with
  | true => rw [cond_true, Nat.eq_of_beq_eq_true hq]; exact h q v (List.mem_cons_self ..)
  | false => rw [cond_false]; exact envOf_spec l (fun t v hm => h t v (List.mem_cons_of_mem _ hm)) t
theorem markL_spec {σ σ' : AH O} {b : Nat} {st : LSt} (h : markL σ b st = some σ') : ∃ s env st0, σ.blk b = some (.loop s env st0) ∧ σ' = σ.put b (.loop s env st) := by
 unfold markL at h
 split at h
 ·rename_i s e st0 hb; cases h; exact ⟨s, e, st0, hb, rfl⟩
 ·cases h
theorem busyL_spec {σ σ' : AH O} {b : Nat} (h : busyL σ b = some σ') : ∃ s env, σ.blk b = some (.loop s env .ready) ∧ σ' = σ.put b (.loop s env .busy) := by
 unfold busyL at h
 split at h
 ·rename_i s e hb; cases h; exact ⟨s, e, hb, rfl⟩
 ·cases h
theorem roundS_sound (hG : GSound RO P G) (hm : P.follows .mixedOrders = true) {site : Nat} {ps : Array Tmp} {asg body : Code} (hs : siteOf P site = some (ps, asg, body)) (hpl : (plain asg && plain body) = true) {ets pts : List (Nat × Ty)} (hpt : pts.map (·.1) = ps.toList) (hdi : distinct (ets.map (·.1) ++ pts.map (·.1)) = true) (an : Ann) : YSound RO P (roundS P G site ps.toList asg body ets pts an) := by
 intro b o ys σ v σ' h ρ fp w args L hL hargs hrel
 simp only [Bool.and_eq_true] at hpl
 simp only [roundS, roundW] at h
 split at h
 ·rename_i s env hblk
  obtain ⟨hc, h'⟩ := bif_some h
  clear h
  simp only [Bool.and_eq_true] at hc
  have hsi := Nat.eq_of_beq_eq_true hc.1
  have hyl := Nat.eq_of_beq_eq_true hc.2
  subst hsi
  have hal := hargs.length
  simp only [Array.length_toList] at hal hyl
  obtain ⟨r, x, g1, g2, g3, g4, g5, g6, g7, g8⟩ := hrel.blk _ _ _ hblk hL
  rw [hs] at g2
  cases g2
  simp only at g3 g4 g5 g7
  have hheap : w.heap[L.B]? = some (.loop r) := hrel.has _ _ _ (by rw [g1]; exact one_self _ _)
  refine ⟨r, hheap, by rw [g3, ← hal, hyl], roundIn_of_wpIn trivial ?_⟩
  have e0 : (r.params.zip args).foldl (fun tmps (t, a) => tmps.setIfInBounds t a) r.tmps = (ps.toList.zip args.toList).foldl (fun tmps (t, a) => tmps.setIfInBounds t a) r.tmps := by
   rw [g3, ← Array.foldl_toList]; simp
  obtain ⟨ea, h', ka⟩ := unpackK_spec _ _ _ _ _ _ h'
  obtain ⟨eb, h', kb⟩ := unpackK_spec _ _ _ _ _ _ h'
  obtain ⟨x1, e1, σ1, h1, h2⟩ := exec_sound (n := r.tmps.size) (ro := some L.B) hG hm asg (List.all_eq_true.2 fun t ht => Nat.ble_eq_true_of_le (g7 t (by simp [ht]))) (.inr hpl.1) an.l (fun p hp => by rw [annSites_plain _ _ hpl.1] at hp; cases hp) _ _ _ _ h'
  have hnd := List.nodup_append.1 (distinct_spec hdi)
  have hps : ∀ t ∈ ps.toList, t < r.tmps.size := fun t ht => g7 t (by simp at ht; simp [ht])
  have he : EnvRel r.tmps.size ρ eb { tmps := (r.params.zip args).foldl (fun tmps (t, a) => tmps.setIfInBounds t a) r.tmps, defers := [] } := by
   rw [e0]
   refine ⟨foldl_set_size _ _ _, fun t => ?_⟩
   show VRel ρ _ (((ps.toList.zip args.toList).foldl (fun tmps (t, a) => tmps.setIfInBounds t a) r.tmps).getD t undef)
   rcases kb t with q | ⟨j, ty, q1, q2⟩
   ·rw [q]
    rcases ka t with q | ⟨j, ty, q1, q2⟩
    ·rw [q]; exact .u _
    ·rw [q2, Nat.zero_add, foldl_set_ne _ _ _ (fun hm => by
      rw [← hpt] at hm
      exact hnd.2.2 t (List.mem_map.2 ⟨(t, ty), List.mem_of_getElem? q1, rfl⟩) t hm rfl)]
     have : (ets.map fun p => envOf env p.1).getD j .u = envOf env t := by simp [List.getD, List.getElem?_map, q1]
     rw [this]
     exact envOf_spec env g8 t
   ·rw [q2, Nat.zero_add]
    have e1 : ps.toList[j]? = some t := by rw [← hpt, List.getElem?_map, q1]; rfl
    have hj : j < ys.length := by rw [hyl]; exact (List.getElem?_eq_some_iff.1 e1).1
    obtain ⟨u, hu, hr⟩ := hargs.get (List.getElem?_eq_getElem hj)
    rw [foldl_set_eq ps.toList args.toList r.tmps rfl hps (hpt ▸ hnd.2.1) j t u e1 hu]
    have : ys.getD j .u = ys[j] := by simp [List.getD, hj]
    rw [this]; exact hr
  rw [g4, g5]
  refine h2 ρ fp _ w he hrel _ fun a1 w1 ρ1 fp1 k1 _ _ k4 => ?_
  cases x1 with
  | ret => cases h1
  | exit id => cases h1
  | norm =>
   simp only at h1
   obtain ⟨σ2, hm2, h1⟩ := Option.bind_eq_some_iff.1 h1
   obtain ⟨s1, env1, hb1, rfl⟩ := busyL_spec hm2
   have hL1 := k4.le.l _ _ hL
   obtain ⟨r1, x1, f1, f2, f3, f4, f5, f6, f7, f8⟩ := k4.rel.blk _ _ _ hb1 hL1
   have hh1 : w1.heap[L.B]? = some (.loop r1) := k4.rel.has _ _ _ (by rw [f1]; exact one_self _ _)
   refine ⟨_, run_beginRound hh1 f6.1, ?_⟩
   obtain ⟨fp2, p2⟩ := Post.setG (S := (· < σ.next)) k4.rel hb1 hL1 f1 (x1 := .loop s1 env1 .busy) (ob' := .loop { r1 with state := .busy }) (fun w' => ⟨{ r1 with state := .busy }, x1, rfl, f2, f3, f4, f5, rfl, f7, f8⟩)
   obtain ⟨x2, e2, σ2, b1, b2⟩ := exec_sound (n := r.tmps.size) (ro := some L.B) hG hm body (List.all_eq_true.2 fun t ht => Nat.ble_eq_true_of_le (g7 t (by simp [ht]))) (.inr hpl.2) an.r (fun p hp => by rw [annSites_plain _ _ hpl.2] at hp; cases hp) _ _ _ _ h1
   refine b2 ρ1 fp2 a1 _ k1 p2.rel _ fun a3 w3 ρ3 fp3 _ _ _ m4 => ?_
   have T := (k4.trans p2).trans (m4.mono fun b (hb : b < σ.next) => Nat.lt_of_lt_of_le hb k4.next)
   have hL3 := m4.le.l _ _ hL1
   have last : ∀ (st : LSt) (jump : Option Code) (vb : AV), ((markL σ2 b st).bind fun σ => some (vb, σ)) = some (v, σ') → vb = .b jump.isNone → (∀ r : Loop, LstRel st { r with state := if jump.isNone then .ready else .done, pending := jump }) →
     ∃ u w', (Instr.endRound L.B jump).run P w3 = .ok u w' ∧ ∃ ρ' fp' u', Ending.returned u = .returned u' ∧ VRel ρ' v u' ∧ Post RO P (· < σ.next) ρ fp σ w ρ' fp' σ' w' := by
    intro st jump vb hv hvb hst
    obtain ⟨σ4, hm4, hv⟩ := Option.bind_eq_some_iff.1 hv
    simp only [Option.some.injEq, Prod.mk.injEq] at hv
    obtain ⟨rfl, rfl⟩ := hv
    obtain ⟨s3, env3, st3, hb3, rfl⟩ := markL_spec hm4
    obtain ⟨r3, x3, q1, q2, q3, q4, q5, q6, q7, q8⟩ := m4.rel.blk _ _ _ hb3 hL3
    have hh3 : w3.heap[L.B]? = some (.loop r3) := m4.rel.has _ _ _ (by rw [q1]; exact one_self _ _)
    obtain ⟨fp4, p4⟩ := Post.setG (S := (· < σ.next)) m4.rel hb3 hL3 q1 (x1 := .loop s3 env3 st) (ob' := .loop { r3 with state := if jump.isNone then .ready else .done, pending := jump }) (fun w' => ⟨_, x3, rfl, q2, q3, q4, q5, hst r3, q7, q8⟩)
    exact ⟨_, _, run_endRound jump hh3, ρ3, fp4, _, rfl, by rw [hvb]; exact .b _, T.trans p4⟩
   cases x2 with
   | norm => exact last .ready none _ b1 rfl (fun _ => ⟨rfl, rfl⟩)
   | ret => exact last (.done none) (some .ret) _ b1 rfl (fun _ => ⟨rfl, rfl⟩)
   | exit id => exact last (.done (some id)) (some (.exit id)) _ b1 rfl (fun _ => ⟨rfl, rfl⟩)
 ·cases h
theorem noY : YSound RO P (fun _ _ => none : Sm O) := fun _ _ _ _ _ _ h => by cases h
theorem roundAt_sound (hG : GSound RO P G) (hm : P.follows .mixedOrders = true) {f : FuncId} {fn : Func} (hf : P.funcs[f]? = some fn) (i : Nat) (ets pts : List (Nat × Ty)) (an : Ann) : YSound RO P (roundAt P G f fn i ets pts an) := by
 unfold roundAt
 split
 ·exact noY
 ·rename_i c hb
  split
  ·exact noY
  ·rename_i x hx
   obtain ⟨ps, asg, body⟩ := x
   cases hc : plain asg && plain body && Nat.blt i 1000 && (pts.map (·.1) == ps.toList) && distinct (ets.map (·.1) ++ pts.map (·.1)) with
   | false => exact noY
   | true =>
    simp only [Bool.and_eq_true] at hc
    obtain ⟨⟨⟨⟨h1, h2⟩, h3⟩, h4⟩, h5⟩ := hc
    have hk : i < 1000 := Nat.le_of_ble_eq_true h3
    have e1 : (f * 1000 + i) / 1000 = f := by rw [Nat.mul_comm, Nat.mul_add_div (by decide), Nat.div_eq_of_lt hk]; rfl
    have e2 : (f * 1000 + i) % 1000 = i := by rw [Nat.mul_comm, Nat.mul_add_mod, Nat.mod_eq_of_lt hk]
    refine roundS_sound hG hm (ps := ps) (by unfold siteOf; rw [e1, e2, hf]; simp [hb, hx]) (by simp [h1, h2]) (by simpa using h4) h5 an
theorem YSound.or {a b : Sm O} (ha : YSound RO P a) (hb : YSound RO P b) : YSound RO P (orR a b) := by
 intro k o ys σ v σ' h
 unfold orR at h
 split at h
 ·rename_i r hr; cases h; exact ha k o ys σ v σ' hr
 ·exact hb k o ys σ v σ' h
end Go.Abs
