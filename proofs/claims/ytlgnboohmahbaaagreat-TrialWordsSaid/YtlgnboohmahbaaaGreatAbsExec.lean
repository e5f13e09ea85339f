/-
  AbsExec: a function's text does what 'exec' says.
-/
import Derived.Test.YtlgnboohmahbaaaGreatAbsIter
set_option linter.unusedVariables false
set_option linter.unusedSimpArgs false
set_option linter.constructorNameAsVariable false
namespace Go.Abs
open Go
variable {O : Type} {RO : O → Loc → (Nat → Option Obj) → Prop} {P : Program} {G : List (Nat × Sm O)} {n : Nat}
theorem exec_sound (hG : GSound RO P G) (hm : P.follows .mixedOrders = true) {ro : Option Nat} : ∀ (c : Code), dstsOK n c = true → (ro = none ∨ plain c = true) → ∀ (an : Ann), (∀ p, p ∈ annSites c an → siteOf P p.1 = some p.2) → ∀ {R : Type} (e : Env) (σ : AH O) (K : X → Env → AH O → Option R) (r : R), exec P G c an e σ K = some r →
  ∃ x e' σ', K x e' σ' = some r ∧ CodeOK RO P n ro c σ e x e' σ'
 | .skip, _, _, an, _, R, e, σ, K, r, h => ⟨.norm, e, σ, h, fun ρ fp a w he hrel Q hQ => wpIn_skip (hQ a w ρ fp he (fun _ h => h) (fun _ _ => rfl) (Post.refl hrel))⟩
 | .label _, _, _, an, _, R, e, σ, K, r, h => ⟨.norm, e, σ, h, fun ρ fp a w he hrel Q hQ => wpIn_label (hQ a w ρ fp he (fun _ h => h) (fun _ _ => rfl) (Post.refl hrel))⟩
 | .exit id, _, _, an, _, R, e, σ, K, r, h => ⟨.exit id, e, σ, h, fun ρ fp a w he hrel Q hQ => wpIn_exit (hQ a w ρ fp he (fun _ h => h) (fun _ _ => rfl) (Post.refl hrel))⟩
 | .ret, _, _, an, _, R, e, σ, K, r, h => ⟨.ret, e, σ, h, fun ρ fp a w he hrel Q hQ => wpIn_ret (hQ a w ρ fp he (fun _ h => h) (fun _ _ => rfl) (Post.refl hrel))⟩
 | .region id ops d, hd, hp, an, hs, R, e, σ, K, r, h => by
  have hdst : ∀ (i : Nat) (o : Oper) (t : Nat), ops.toList[i]? = some o → o.dst = some t → t < n := fun i o t ho ht => dstsOK_spec hd t (dstsOf_mem ho ht)
  cases d with
  | false =>
   obtain ⟨e', σ', h1, h2⟩ := region_seq_sound hG (id := id) hdst h
   exact ⟨.norm, e', σ', h1, fun ρ fp a w he hrel Q hQ => h2 ρ fp a w he hrel ro Q fun a' w' ρ' fp' k1 k2 k3 k4 => hQ a' w' ρ' fp' k1 (fun B0 hm => by rw [k2]; exact hm.post k4) k3 k4⟩
  | true =>
   obtain ⟨e', σ', h1, h2⟩ := region_draw_sound hG hm (id := id) hdst h
   exact ⟨.norm, e', σ', h1, fun ρ fp a w he hrel Q hQ => h2 ρ fp a w he hrel ro Q fun a' w' ρ' fp' k1 k2 k3 k4 => hQ a' w' ρ' fp' k1 (fun B0 hm => by rw [k2]; exact hm.post k4) k3 k4⟩
 | .seq a b, hd, hp, an, hs, R, e, σ, K, r, h => by
  have hpa : ro = none ∨ plain a = true := hp.imp id fun h => by simp only [plain, Bool.and_eq_true] at h; exact h.1
  have hpb : ro = none ∨ plain b = true := hp.imp id fun h => by simp only [plain, Bool.and_eq_true] at h; exact h.2
  have hsa : ∀ p, p ∈ annSites a an.l → siteOf P p.1 = some p.2 := fun p h => hs p (by simp only [annSites, List.mem_append]; exact .inl h)
  have hsb : ∀ p, p ∈ annSites b an.r → siteOf P p.1 = some p.2 := fun p h => hs p (by simp only [annSites, List.mem_append]; exact .inr h)
  have hda : dstsOK n a = true := List.all_eq_true.2 fun t ht => List.all_eq_true.1 hd t (by simp [writesOf, ht])
  have hdb : dstsOK n b = true := List.all_eq_true.2 fun t ht => List.all_eq_true.1 hd t (by simp [writesOf, ht])
  obtain ⟨x, e1, σ1, h1, h2⟩ := exec_sound hG hm a hda hpa an.l hsa e σ _ r h
  have other : x ≠ .norm → K x e1 σ1 = some r → ∃ x e' σ', K x e' σ' = some r ∧ CodeOK RO P n ro (.seq a b) σ e x e' σ' := fun hx hk => by
   refine ⟨x, e1, σ1, hk, fun ρ fp ac w he hrel Q hQ => wpIn_seq (h2 ρ fp ac w he hrel _ fun a' w' ρ' fp' k1 k2 k3 k4 => ?_)⟩
   have := hQ a' w' ρ' fp' k1 k2 (fun t ht => k3 t (fun h => ht (by simp [writesOf, h]))) k4
   cases x <;> first | exact this | exact absurd rfl hx
  cases x with
  | norm =>
   simp only at h1
   obtain ⟨x, e2, σ2, h3, h4⟩ := exec_sound hG hm b hdb hpb an.r hsb e1 σ1 K r h1
   refine ⟨x, e2, σ2, h3, fun ρ fp ac w he hrel Q hQ => wpIn_seq (h2 ρ fp ac w he hrel _ fun a' w' ρ' fp' k1 k2 k3 k4 => ?_)⟩
   refine h4 ρ' fp' a' w' k1 k4.rel Q fun a'' w'' ρ'' fp'' l1 l2 l3 l4 => ?_
   refine hQ a'' w'' ρ'' fp'' l1 (fun B0 hm => l2 B0 (k2 B0 hm)) (fun t ht => (l3 t (fun h => ht (by simp [writesOf, h]))).trans (k3 t (fun h => ht (by simp [writesOf, h])))) ?_
   exact k4.trans (l4.mono fun b hb => Nat.lt_of_lt_of_le hb k4.next)
  | exit id => exact other (by simp) h1
  | ret => exact other (by simp) h1
 | .cond c a b, hd, hp, an, hs, R, e, σ, K, r, h => by
  have hpa : ro = none ∨ plain a = true := hp.imp id fun h => by simp only [plain, Bool.and_eq_true] at h; exact h.1
  have hpb : ro = none ∨ plain b = true := hp.imp id fun h => by simp only [plain, Bool.and_eq_true] at h; exact h.2
  have hsa : ∀ p, p ∈ annSites a an.l → siteOf P p.1 = some p.2 := fun p h => hs p (by simp only [annSites, List.mem_append]; exact .inl h)
  have hsb : ∀ p, p ∈ annSites b an.r → siteOf P p.1 = some p.2 := fun p h => hs p (by simp only [annSites, List.mem_append]; exact .inr h)
  have hda : dstsOK n a = true := List.all_eq_true.2 fun t ht => List.all_eq_true.1 hd t (by simp [writesOf, ht])
  have hdb : dstsOK n b = true := List.all_eq_true.2 fun t ht => List.all_eq_true.1 hd t (by simp [writesOf, ht])
  simp only [exec] at h
  split at h
  ·rename_i t ht
   have hcode : ∀ {x e' σ'}, CodeOK RO P n ro (if t = true then a else b) σ e x e' σ' → CodeOK RO P n ro (.cond c a b) σ e x e' σ' := fun {x e' σ'} hh ρ fp ac w he hrel Q hQ => by
    have hc : ac.eval c = .bool t := by
     have := he.ev c; rw [ht] at this; exact this.b_inv
    refine wpIn_cond hc (hh ρ fp ac w he hrel Q fun a' w' ρ' fp' k1 k2 k3 k4 => hQ a' w' ρ' fp' k1 k2 (fun q hq => k3 q (fun h => hq ?_)) k4)
    cases t
    ·simp only [Bool.false_eq_true, if_false] at h; simp [writesOf, h]
    ·simp only [if_true] at h; simp [writesOf, h]
   obtain ⟨x, e1, σ1, h1, h2⟩ := joinK_spec (D := fun x e' σ' => CodeOK RO P n ro (.cond c a b) σ e x e' σ') (fun {R} K r hb => by
    cases t with
    | true =>
     obtain ⟨x, e', σ', g1, g2⟩ := exec_sound hG hm a hda hpa an.l hsa e σ K r (Ann.off_some hb)
     exact ⟨x, e', σ', g1, hcode (by simpa using g2)⟩
    | false =>
     obtain ⟨x, e', σ', g1, g2⟩ := exec_sound hG hm b hdb hpb an.r hsb e σ K r (Ann.off_some hb)
     exact ⟨x, e', σ', g1, hcode (by simpa using g2)⟩) h
   rcases h2 with ⟨hx, e2, g1, g2⟩ | ⟨hx, g1⟩
   ·obtain rfl : x = .norm := by cases x <;> first | rfl | cases hx
    exact ⟨.norm, e2, σ1, g1, fun ρ fp ac w he hrel Q hQ => h1 ρ fp ac w he hrel Q fun a' w' ρ' fp' k1 k2 k3 k4 => hQ a' w' ρ' fp' (he.join k4.le k1 k3 g2) k2 k3 k4⟩
   ·exact ⟨x, e1, σ1, g1, h1⟩
  ·cases h
 | .block id c, hd, hp, an, hs, R, e, σ, K, r, h => by
  simp only [exec] at h
  obtain ⟨x, e1, σ1, h1, h2⟩ := joinK_spec (D := fun x e' σ' => CodeOK RO P n ro c σ e x e' σ') (fun {R} K r hb => by
   obtain ⟨x, e', σ', g1, g2⟩ := exec_sound hG hm c hd hp an.l hs e σ K r hb
   exact ⟨x, e', σ', g1, g2⟩) h
  rcases h2 with ⟨hx, e2, g1, g2⟩ | ⟨hx, g1⟩
  ·refine ⟨.norm, e2, σ1, g1, fun ρ fp ac w he hrel Q hQ => wpIn_block (h1 ρ fp ac w he hrel _ fun a' w' ρ' fp' k1 k2 k3 k4 => ?_)⟩
   have := hQ a' w' ρ' fp' (he.join k4.le k1 k3 g2) k2 k3 k4
   cases x with
   | norm => exact this
   | exit i =>
    have : i = id := Nat.eq_of_beq_eq_true hx
    subst this
    simp only [X.out, Exit.inBlock, if_true]
    assumption
   | ret => cases hx
  ·refine ⟨x, e1, σ1, g1, fun ρ fp ac w he hrel Q hQ => wpIn_block (h1 ρ fp ac w he hrel _ fun a' w' ρ' fp' k1 k2 k3 k4 => ?_)⟩
   have := hQ a' w' ρ' fp' k1 k2 k3 k4
   cases x with
   | norm => cases hx
   | exit i =>
    have hne : i ≠ id := fun e => by subst e; simp [X.isOut] at hx
    simp only [X.out, Exit.inBlock, if_neg hne]
    assumption
   | ret => exact this
 | .loop c, hd, hp, an, hs, R, e, σ, K, r, h => by
  have key : ∀ {T : Type} (slots : List (Nat × Ty)) (l : Ann) (hsl : ∀ p, p ∈ annSites c l → siteOf P p.1 = some p.2) (KK : X → Env → AH O → Option ((List AV × AH O) ⊕ T)) (hK : ∀ e1 σ1, KK .norm e1 σ1 = some (Sum.inl (packE slots e1, σ1))) (hK' : ∀ x e1 σ1, x ≠ .norm → ∀ s, KK x e1 σ1 ≠ some (Sum.inl s)),
    ∀ (m : Nat) (e0 : Env) (σ0 : AH O) (t : T), loopN (fun r : List AV × AH O => unpackK slots 0 r.1 (Env.mask (writesOf c) e) fun e => exec P G c l e r.2 KK) m (packE slots e0, σ0) = some t →
    ∃ x e1 σ1, x ≠ .norm ∧ KK x e1 σ1 = some (Sum.inr t) ∧ ∀ (ρ0 : Inj) (fp0 : Fp) (a0 : Act) (w0 : World), EnvRel n ρ0 e a0 → ∀ (ρ : Inj) (fp : Fp) (a : Act) (w : World), EnvRel n ρ e0 a → ρ0.le ρ → (∀ t, t ∉ writesOf c → a.tmps.getD t undef = a0.tmps.getD t undef) →
     Rel RO P ρ fp σ0 w → ∀ Q : Exit → Act → World → Prop, (∀ a' w' ρ' fp', EnvRel n ρ' e1 a' → (∀ B0, Marks B0 fp w a.defers → Marks B0 fp' w' a'.defers) → (∀ t, t ∉ writesOf c → a'.tmps.getD t undef = a0.tmps.getD t undef) → Post RO P (· < σ0.next) ρ fp σ0 w ρ' fp' σ1 w' → Q x.out a' w') →
      Code.roundsIn (Fw ro) 0 P c Q m a w := by
   intro T slots l hsl KK hK hK' m
   induction m with
   | zero => intro e0 σ0 t h; cases h
   | succ m ih =>
    intro e0 σ0 t h
    simp only [loopN] at h
    have hstep : ∀ y, unpackK slots 0 (packE slots e0) (Env.mask (writesOf c) e) (fun e => exec P G c l e σ0 KK) = some y →
      ∃ x e1 σ1, KK x e1 σ1 = some y ∧ ∀ (ρ0 : Inj) (fp0 : Fp) (a0 : Act) (w0 : World), EnvRel n ρ0 e a0 → ∀ (ρ : Inj) (fp : Fp) (a : Act) (w : World), EnvRel n ρ e0 a → ρ0.le ρ → (∀ t, t ∉ writesOf c → a.tmps.getD t undef = a0.tmps.getD t undef) →
       Rel RO P ρ fp σ0 w → ∀ Q : Exit → Act → World → Prop, (∀ a' w' ρ' fp', EnvRel n ρ' e1 a' → (∀ B0, Marks B0 fp w a.defers → Marks B0 fp' w' a'.defers) → (∀ t, t ∉ writesOf c → a'.tmps.getD t undef = a0.tmps.getD t undef) → Post RO P (· < σ0.next) ρ fp σ0 w ρ' fp' σ1 w' → Q x.out a' w') → c.wpIn (Fw ro) 0 P Q a w := by
     intro y hy
     obtain ⟨e', k1, k2⟩ := join_env hy
     obtain ⟨x, e1, σ1, g1, g2⟩ := exec_sound hG hm c hd hp l hsl e' σ0 KK y k1
     refine ⟨x, e1, σ1, g1, fun ρ0 fp0 a0 w0 he0 ρ fp a w he hle hkeep hrel Q hQ => ?_⟩
     have hee : EnvRel n ρ e' a := he0.join hle he hkeep k2
     refine g2 ρ fp a w hee hrel Q fun a' w' ρ' fp' l1 l2 l3 l4 => hQ a' w' ρ' fp' l1 l2 (fun t ht => (l3 t ht).trans (hkeep t ht)) l4
    rcases bindS_spec h with ⟨s, hs, h2⟩ | hs
    ·obtain ⟨x, e1, σ1, g1, g2⟩ := hstep _ hs
     obtain rfl : x = .norm := by
      cases x with
      | norm => rfl
      | exit i => exact absurd g1 (hK' _ _ _ (by simp) _)
      | ret => exact absurd g1 (hK' _ _ _ (by simp) _)
     rw [hK] at g1
     simp only [Option.some.injEq, Sum.inl.injEq] at g1
     subst g1
     obtain ⟨x, e2, σ2, q1, q2, q3⟩ := ih e1 σ1 t h2
     refine ⟨x, e2, σ2, q1, q2, fun ρ0 fp0 a0 w0 he0 ρ fp a w he hle hkeep hrel Q hQ => ?_⟩
     rw [roundsIn_succ]
     refine g2 ρ0 fp0 a0 w0 he0 ρ fp a w he hle hkeep hrel _ fun a' w' ρ' fp' l1 l2 l3 l4 => ?_
     refine q3 ρ0 fp0 a0 w0 he0 ρ' fp' a' w' l1 (hle.trans l4.le) l3 l4.rel Q fun a'' w'' ρ'' fp'' m1 m2 m3 m4 => ?_
     exact hQ a'' w'' ρ'' fp'' m1 (fun B0 hm => m2 B0 (l2 B0 hm)) m3 (l4.trans (m4.mono fun b hb => Nat.lt_of_lt_of_le hb l4.next))
    ·obtain ⟨x, e1, σ1, g1, g2⟩ := hstep _ hs
     have hx : x ≠ .norm := fun e => by rw [e, hK] at g1; simp at g1
     refine ⟨x, e1, σ1, hx, g1, fun ρ0 fp0 a0 w0 he0 ρ fp a w he hle hkeep hrel Q hQ => ?_⟩
     rw [roundsIn_succ]
     refine g2 ρ0 fp0 a0 w0 he0 ρ fp a w he hle hkeep hrel _ fun a' w' ρ' fp' l1 l2 l3 l4 => ?_
     have := hQ a' w' ρ' fp' l1 l2 l3 l4
     cases x <;> first | exact absurd rfl hx | exact this
  rw [exec.eq_def] at h
  simp only at h
  split at h
  ·rename_i xid slots out l
   obtain ⟨r0, hr0, h⟩ := Option.bind_eq_some_iff.1 h
   obtain ⟨m, hm'⟩ := loopF_spec hr0
   obtain ⟨x, e1, σ1, hx, q1, q2⟩ := key slots l hs _ (fun _ _ => rfl) (fun x e1 σ1 hx s hh => by
    cases x with
    | norm => exact hx rfl
    | ret => cases hh
    | exit i => simp only at hh; cases hb : Nat.beq i xid <;> rw [hb] at hh <;> simp at hh) m e σ r0 hm'
   cases x with
   | norm => exact absurd rfl hx
   | ret => cases q1
   | exit id =>
    simp only at q1
    obtain ⟨hid, q3⟩ := bif_some q1
    have hid := Nat.eq_of_beq_eq_true hid
    subst hid
    simp only [Option.some.injEq, Sum.inr.injEq] at q3
    subst q3
    obtain ⟨e2, k1, k2⟩ := join_env h
    refine ⟨.exit id, e2, σ1, k1, fun ρ fp a w he hrel Q hQ => wpIn_loop_rounds m ?_⟩
    exact q2 ρ fp a w he ρ fp a w he (Inj.le_refl _) (fun _ _ => rfl) hrel Q fun a' w' ρ' fp' l1 l2 l3 l4 => hQ a' w' ρ' fp' (he.join l4.le l1 l3 k2) l2 l3 l4
  ·rename_i xid slots out l
   have hno : ∀ (x : X) (e1 : Env) (σ1 : AH O), x ≠ .norm → ∀ s, (match x with
      | .norm => some (Sum.inl (packE slots e1, σ1))
      | .exit id => bif Nat.beq id xid then some (Sum.inr (Sum.inl (packE out e1, σ1))) else (K (.exit id) e1 σ1).map fun r => Sum.inr (Sum.inr r)
      | .ret => (K .ret e1 σ1).map fun r => Sum.inr (Sum.inr r) : Option ((List AV × AH O) ⊕ ((List AV × AH O) ⊕ R))) ≠ some (Sum.inl s) := fun x e1 σ1 hx s hh => by
    cases x with
    | norm => exact hx rfl
    | ret => simp at hh
    | exit i => simp only at hh; cases hb : Nat.beq i xid <;> rw [hb] at hh <;> simp at hh
   rcases bindS_spec h with ⟨r0, hr0, h⟩ | hr0
   ·obtain ⟨m, hm'⟩ := loopF_spec hr0
    obtain ⟨x, e1, σ1, hx, q1, q2⟩ := key slots l hs _ (fun _ _ => rfl) hno m e σ (Sum.inl r0) hm'
    cases x with
    | norm => exact absurd rfl hx
    | ret => simp at q1
    | exit id =>
     simp only at q1
     cases hid : Nat.beq id xid with
     | false => rw [hid] at q1; simp at q1
     | true =>
      rw [hid] at q1
      have hid := Nat.eq_of_beq_eq_true hid
      subst hid
      simp only [cond_true, Option.some.injEq, Sum.inr.injEq, Sum.inl.injEq] at q1
      subst q1
      obtain ⟨e2, k1, k2⟩ := join_env h
      refine ⟨.exit id, e2, σ1, k1, fun ρ fp a w he hrel Q hQ => wpIn_loop_rounds m ?_⟩
      exact q2 ρ fp a w he ρ fp a w he (Inj.le_refl _) (fun _ _ => rfl) hrel Q fun a' w' ρ' fp' l1 l2 l3 l4 => hQ a' w' ρ' fp' (he.join l4.le l1 l3 k2) l2 l3 l4
   ·obtain ⟨m, hm'⟩ := loopF_spec hr0
    obtain ⟨x, e1, σ1, hx, q1, q2⟩ := key slots l hs _ (fun _ _ => rfl) hno m e σ (Sum.inr r) hm'
    have fin : K x e1 σ1 = some r → ∃ x e' σ', K x e' σ' = some r ∧ CodeOK RO P n ro (.loop c) σ e x e' σ' := fun hk =>
     ⟨x, e1, σ1, hk, fun ρ fp a w he hrel Q hQ => wpIn_loop_rounds m (q2 ρ fp a w he ρ fp a w he (Inj.le_refl _) (fun _ _ => rfl) hrel Q fun a' w' ρ' fp' l1 l2 l3 l4 => hQ a' w' ρ' fp' l1 l2 l3 l4)⟩
    cases x with
    | norm => exact absurd rfl hx
    | exit id =>
     simp only at q1
     cases hid : Nat.beq id xid with
     | true => rw [hid] at q1; simp at q1
     | false =>
      rw [hid] at q1
      simp only [cond_false, Option.map_eq_some_iff, Sum.inr.injEq] at q1
      obtain ⟨r1, q1, e⟩ := q1
      subst e
      exact fin q1
    | ret =>
     simp only [Option.map_eq_some_iff, Sum.inr.injEq] at q1
     obtain ⟨r1, q1, e⟩ := q1
     subst e
     exact fin q1
  ·rename_i head l
   split at h
   ·rename_i rid ops d mo ca cb body
    split at h
    ·rename_i it tn tm out hlm
     obtain ⟨rfl, -⟩ := lmOK_spec hlm
     cases hcnd : (writesOf (.seq (.region rid ops false) (.seq (.cond mo ca cb) body))).elem it || head.any (fun s => Nat.beq s.1 tn || Nat.beq s.1 tm) with
     | true => rw [hcnd] at h; cases h
     | false =>
     rw [hcnd] at h
     simp only [cond_false] at h
     simp only [Bool.or_eq_false_iff] at hcnd
     obtain ⟨⟨b, m, st, c⟩, hq, h⟩ := Option.bind_eq_some_iff.1 h
     obtain ⟨_, hok, h⟩ := Option.bind_eq_some_iff.1 h
     obtain ⟨t, ht, h⟩ := Option.bind_eq_some_iff.1 h
     simp only at hok ht h
     obtain ⟨es, hes⟩ := (itOK_spec hok).2
     have hbl := (itOK_spec hok).1
     have hbm : b ≠ m := fun e => by rw [e, hes] at hbl; cases hbl
     have heb : e it = .p (some (.n b, 0)) := by
      unfold itOf at hq
      split at hq
      ·rename_i b' hb'
       split at hq
       ·simp only [Option.some.injEq, Prod.mk.injEq] at hq
        rw [hb', hq.1]
       ·cases hq
      ·cases hq
     have hhead : ∀ s ∈ head, s.1 ≠ tn ∧ s.1 ≠ tm := fun s hs' => by
      have := List.any_eq_false.1 hcnd.2 s hs'
      simp only [Bool.or_eq_true, not_or, Bool.not_eq_true] at this
      exact ⟨fun e => by rw [e] at this; simp at this, fun e => by rw [e] at this; simp at this⟩
     have hit : it ∉ writesOf (.seq (.region rid ops false) (.seq (.cond mo ca cb) body)) := fun hm' => by
      have := hcnd.1
      rw [List.elem_eq_mem] at this
      simp [hm'] at this
     obtain ⟨eF, hK, hF⟩ := unpackK_spec _ _ _ _ _ _ h
     have hdb : dstsOK n body = true := List.all_eq_true.2 fun q hq' => List.all_eq_true.1 hd q (by simp [writesOf, hq'])
     have hpb : ro = none ∨ plain body = true := hp.imp id fun h => by simp only [plain, Bool.and_eq_true] at h; exact h.2.2
     refine ⟨.exit out, eF, t.2.kill b, hK, fun ρ fp a w he hrel Q hQ => wpIn_loop_rounds (st.length + 1) ?_⟩
     obtain ⟨L, hL⟩ : ∃ L, ρ b = some L := by
      have := he.get it
      rw [heb] at this
      generalize a.tmps.getD it undef = u at this
      cases this with
      | p _ _ L hL => exact ⟨L, hL.n_inv⟩
     refine lm_rounds hlm hd hit heb hbm (f := _) (head := head) ?_ hhead ht he hL ?_ st.length [] List.nodup_nil (by simp) (by simp) σ e rfl ⟨es, hes⟩ ρ fp a w he (fun _ h => h) (fun _ _ => rfl) (by rw [AH.put_self hbl]; exact Post.refl hrel)
     ·intro i dn σr S' e1 hf
      obtain ⟨e', k1, k2⟩ := join_env hf
      obtain ⟨x, e2, σ2, g1, g2⟩ := exec_sound hG hm body hdb hpb l (fun p hp' => hs p (by simp only [annSites, Ann.l, Ann.r, List.mem_append]; exact .inr (.inr hp'))) _ _ _ S' k1
      cases x with
      | norm =>
       simp only at g1
       obtain ⟨_, g3, g4⟩ := Option.bind_eq_some_iff.1 g1
       cases g4
       exact ⟨e', e2, σ2, k2, g2, g3, rfl⟩
      | exit id => cases g1
      | ret => cases g1
     ·intro a' w' ρ' fp' e1 hpk l1 l2 l3 l4
      refine hQ a' w' ρ' fp' ?_ l2 l3 l4
      refine he.join l4.le l1 l3 fun q => ?_
      rcases hF q with h3 | ⟨j, ty, h3, h4⟩
      ·rw [Env.mask_get] at h3
       by_cases hq' : q ∈ writesOf (.seq (.region rid ops false) (.seq (.cond mo ca cb) body))
       ·rw [if_pos hq'] at h3; exact .inr (.inl h3)
       ·rw [if_neg hq'] at h3; exact .inr (.inr ⟨hq', h3⟩)
      ·left; rw [h4, ← hpk, Nat.zero_add, packE_get h3]
    ·cases h
   ·cases h
  ·cases h
 | .scope c, hd, hp, an, hs, R, e, σ, K, r, h => by
  simp only [exec] at h
  obtain ⟨x, e1, σ1, g1, g2⟩ := exec_sound hG hm c hd hp an.l hs e σ K r h
  refine ⟨x, e1, σ1, g1, fun ρ fp a w he hrel Q hQ => wpIn_scope_straight (g2 ρ fp a w he hrel _ fun a' w' ρ' fp' k1 k2 k3 k4 => ?_)⟩
  have := hQ a' w' ρ' fp' k1 k2 k3 k4
  cases x <;> exact this
 | .rangeFunc g ps asg body, hd, hp, an, hs, R, e, σ, K, r, h => by
  have hro : ro = none := hp.resolve_right (by simp [plain])
  subst hro
  simp only [exec] at h
  split at h
  ·rename_i site slots outs
   split at h
   ·rename_i f hev
    obtain ⟨⟨v1, σ1⟩, hc, h'⟩ := Option.bind_eq_some_iff.1 h
    clear h
    obtain ⟨c, fi, ca, rfl⟩ : ∃ c fi ca, f = some (.func c, fi, ca) := by
     unfold rangeV at hc
     split at hc
     ·rename_i c fi ca; exact ⟨c, fi, ca, rfl⟩
     ·cases hc
    replace hc : getG G (c + rKey) (fi ++ [.fn (some (.yield σ.next, [], []))] ++ ca) ((σ.bump 1).put σ.next (.loop site (slots.map fun t => (t, e t)) .ready)) = some (v1, σ1) := hc
    obtain ⟨s, hl, h⟩ := Option.bind_eq_some_iff.1 h'
    simp only at hl h
    have hsite : siteOf P site = some (ps, asg, body) := hs (site, (ps, asg, body)) (by simp [annSites])
    obtain ⟨x, hk, hx⟩ : ∃ x, K x e (σ1.kill σ.next) = some r ∧ ((x = .norm ∧ s = 0) ∨ (x = xOf s ∧ 3 ≤ s)) := by
     cases h0 : Nat.beq s 0 with
     | true => rw [h0] at h; exact ⟨.norm, h, .inl ⟨rfl, Nat.eq_of_beq_eq_true h0⟩⟩
     | false => rw [h0] at h; obtain ⟨h1, h2⟩ := outsK_spec h; exact ⟨xOf s, h2, .inr ⟨rfl, h1⟩⟩
    obtain ⟨c', hc', hent, hsnd⟩ : ∃ c', c + rKey = c' + rKey ∧ Entered P c' ∧ FSound RO P c' (getG G (c + rKey)) := by
     rcases getG_sound hG hc with ⟨h0, _⟩ | ⟨h0, _⟩ | ⟨h0, _⟩ | h
     ·simp only [yKey, rKey] at h0; omega
     ·simp only [yKey, rKey] at h0; omega
     ·simp only [yKey, rKey] at h0; omega
     ·exact h
    obtain rfl : c = c' := Nat.add_right_cancel hc'
    refine ⟨x, e, σ1.kill σ.next, hk, fun ρ fp a w he hrel Q hQ => ?_⟩
    refine wpIn_rangeFunc fun fn _ => ?_
    have hg := he.ev g
    rw [hev] at hg
    obtain ⟨fi', ca', uf, hfi, hca⟩ := hg.fn_inv
    have hw1 : Post RO P (· < σ.next) ρ fp σ w ρ fp σ (w.alloc (.deferred (some []))) := Post.more hrel (fun B hB => Go.heap_alloc_old w _ hB) (by simp) rfl rfl rfl
    have hsz1 : (w.alloc (.deferred (some []))).heap.size = w.heap.size + 1 := by simp
    let r0 : Loop := { state := .ready, pending := none, fn := fn, tmps := a.tmps, params := ps, assign := asg, body := body, defers := w.heap.size }
    obtain ⟨ρ1, fp1, hρ1, hp1⟩ := Post.allocG (σ := σ.bump 1) (nid := σ.next) (hw1.rel.bump 1) (Nat.lt_succ_self _) (hrel.next _ (Nat.le_refl _)).1 (.loop r0) (.loop site (slots.map fun t => (t, e t)) .ready) ⟨(w.alloc (.deferred (some []))).heap.size, 0, 0, 0⟩ (fun ρ' hle w' =>
     ⟨r0, (ps, asg, body), rfl, hsite, rfl, rfl, rfl, ⟨rfl, rfl⟩, fun t ht => by rw [show r0.tmps.size = n from he.size]; exact dstsOK_spec hd t ht, fun t v hm => by
      simp only [List.mem_map, Prod.mk.injEq] at hm
      obtain ⟨t', _, rfl, rfl⟩ := hm
      exact (he.get t').mono hle⟩)
    have hargs : VRels ρ1 (fi ++ [.fn (some (.yield σ.next, [], []))] ++ ca) (fi'.toArray ++ #[Value.func (.yield (w.alloc (.deferred (some []))).heap.size) #[] #[]] ++ ca'.toArray).toList := by
     simp only [Array.toList_append]
     exact ((hfi.mono hp1.le).append (.cons _ _ _ _ (.yl _ _ (.n _ _ hρ1)) .nil)).append (hca.mono hp1.le)
    have hcall := hsnd _ _ _ _ hc ρ1 fp1 _ (fi'.toArray ++ #[Value.func (.yield (w.alloc (.deferred (some []))).heap.size) #[] #[]] ++ ca'.toArray) hargs hp1.rel
    refine ⟨(w.alloc (.deferred (some []))).heap.size, [{ target := .collected w.heap.size, args := #[] }], (w.alloc (.deferred (some []))).alloc (.loop r0), { target := .fn (.func c) ca'.toArray, args := fi'.toArray ++ #[Value.func (.yield (w.alloc (.deferred (some []))).heap.size) #[] #[]] }, (w.alloc (.deferred (some []))).alloc (.loop r0), c, fi'.toArray ++ #[Value.func (.yield (w.alloc (.deferred (some []))).heap.size) #[] #[]] ++ ca'.toArray, (w.alloc (.deferred (some []))).alloc (.loop r0), ?_, ?_, fun _ _ => trivial, ?_, fun h => (Bool.false_ne_true h).elim, callsIn_fw.2 (hcall.mono ?_)⟩
    ·rw [hsz1]; exact run_enterLoop_outer fn a.tmps ps asg body
    ·have ec : a.eval (.const (Value.func (.yield (w.alloc (.deferred (some []))).heap.size) #[] #[])) = Value.func (.yield (w.alloc (.deferred (some []))).heap.size) #[] #[] := rfl
     simp [resolve, uf, Deferred.ofValue]
     rfl
    ·exact hent _ _
    rintro xx w3 ⟨ρ2, fp2, u, rfl, hu, hp2⟩
    obtain ⟨site', env', st, hblk, hst⟩ : ∃ site' env' st, σ1.blk σ.next = some (.loop site' env' st) ∧ st.code = s := by
     unfold lstN at hl
     split at hl
     ·rename_i s' e' st' hb; exact ⟨s', e', st', hb, by simpa using hl⟩
     ·cases hl
    have hL2 := hp2.le.l _ _ hρ1
    obtain ⟨r3, x3, g1, g2, g3, g4, g5, g6, g7, g8⟩ := hp2.rel.blk _ _ _ hblk hL2
    have hheap : w3.heap[(w.alloc (.deferred (some []))).heap.size]? = some (.loop r3) := hp2.rel.has _ _ _ (by rw [g1]; exact one_self _ _)
    obtain ⟨fp3, hp3⟩ := Post.setG (S := (· < σ.next)) hp2.rel hblk hL2 g1 (x1 := .loop site' env' .gone) (ob' := .loop { r3 with state := .exhausted }) (fun w' => ⟨{ r3 with state := .exhausted }, x3, rfl, g2, g3, g4, g5, trivial, g7, g8⟩)
    obtain ⟨fp4, hp4⟩ := Post.kill (S := (· < σ.next)) hp3.rel σ.next
    have ek : (σ1.put σ.next (.loop site' env' .gone)).kill σ.next = σ1.kill σ.next := by
     simp only [AH.put, AH.kill, AH.mk.injEq, and_true]
     funext q
     cases Nat.beq q σ.next <;> rfl
    rw [ek] at hp4
    have T1 : Post RO P (· < σ.next) ρ fp σ (w.alloc (.deferred (some []))) ρ2 fp4 (σ1.kill σ.next) (w3.putObj (w.alloc (.deferred (some []))).heap.size (.loop { r3 with state := .exhausted })) :=
     Post.of_bump ((hp1.mono fun b (hb : b < σ.next) => by omega).trans ((hp2.mono fun b (hb : b < σ.next) => Nat.lt_succ_of_lt hb).trans (hp3.trans hp4)))
    have T := hw1.trans T1
    have hE : EnvRel n ρ2 e ({ a with defers := [{ target := .collected w.heap.size, args := #[] }] ++ a.defers } : Act) := ⟨he.size, fun t => (he.get t).mono T.le⟩
    have hM : ∀ B0, Marks B0 fp w a.defers → Marks B0 fp4 (w3.putObj (w.alloc (.deferred (some []))).heap.size (.loop { r3 with state := .exhausted })) ([{ target := .collected w.heap.size, args := #[] }] ++ a.defers) := fun B0 hm => by
     have m1 := hm.post hw1
     refine Marks.post (S := (· < σ.next)) ⟨m1.sz, ?_, fun d hd' => ?_⟩ T1
     ·simp only [List.cons_append, List.nil_append, List.map_cons, List.nodup_cons]
      refine ⟨fun hmem => ?_, hm.nd⟩
      obtain ⟨d, hd1, hd2⟩ := List.mem_map.1 hmem
      obtain ⟨r, k1, _, k3, _⟩ := hm.it d hd1
      rw [k1] at hd2
      cases hd2
      have := (Array.getElem?_eq_some_iff.1 k3).1
      omega
     ·rcases List.mem_append.1 hd' with hd' | hd'
      ·simp only [List.mem_singleton] at hd'
       subst hd'
       refine ⟨w.heap.size, rfl, hm.sz, heap_alloc_new w _, fun b => ?_⟩
       cases hb : fp b w.heap.size with
       | none => rfl
       | some o => have := hrel.size (b := b) (B := w.heap.size) (by rw [hb]; simp); omega
      ·exact m1.it d hd'
    have done : ∀ {x : X} {Q' : Exit → Act → World → Prop}, Q' = Q → K x e (σ1.kill σ.next) = some r → True := fun _ _ => trivial
    have hq := hQ _ _ ρ2 fp4 hE hM (fun _ _ => rfl) T
    cases st with
    | ready =>
     obtain ⟨k1, k2⟩ := g6
     refine ⟨none, _, by rw [← k2]; exact run_endLoop hheap (by rw [k1]; simp), ?_⟩
     rcases hx with ⟨rfl, _⟩ | ⟨_, h3⟩
     ·exact hq
     ·simp only [LSt.code] at hst; omega
    | busy => rcases hx with ⟨_, h3⟩ | ⟨_, h3⟩ <;> simp only [LSt.code] at hst <;> omega
    | gone => rcases hx with ⟨_, h3⟩ | ⟨_, h3⟩ <;> simp only [LSt.code] at hst <;> omega
    | done j =>
     obtain ⟨k1, k2⟩ := g6
     refine ⟨some (jmpOf j), _, by rw [← k2]; exact run_endLoop hheap (by rw [k1]; simp), ?_⟩
     cases j with
     | none =>
      simp only [LSt.code] at hst
      rcases hx with ⟨_, h3⟩ | ⟨rfl, _⟩
      ·omega
      ·subst hst
       exact wpIn_ret hq
     | some id =>
      simp only [LSt.code] at hst
      rcases hx with ⟨_, h3⟩ | ⟨rfl, _⟩
      ·omega
      ·subst hst
       have : xOf (id + 4) = .exit id := by unfold xOf; rw [if_neg (by omega)]; congr 1
       rw [this] at hq
       exact wpIn_exit hq
   ·cases h
  ·cases h
 | .goto _, _, _, an, _, R, e, σ, K, r, h => by cases h
 | .refuse _, _, _, an, _, R, e, σ, K, r, h => by cases h
end Go.Abs
