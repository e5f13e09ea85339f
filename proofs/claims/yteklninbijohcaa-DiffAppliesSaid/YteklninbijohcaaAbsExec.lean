/-
  AbsExec: a function's text does what 'exec' says.
-/
import Derived.Test.YteklninbijohcaaAbsDraw
import Derived.Scope
set_option linter.unusedVariables false
set_option linter.unusedSimpArgs false
set_option linter.constructorNameAsVariable false
namespace Go.Abs
open Go
variable {O : Type} {RO : O → Loc → (Nat → Option Obj) → Prop} {P : Program} {G : List (Nat × Sm O)} {n : Nat}

def X.out : X → Exit
  | .norm => .normal
  | .exit id => .exit id
  | .ret => .ret

def CodeOK (RO : O → Loc → (Nat → Option Obj) → Prop) (P : Program) (n : Nat) (c : Code) (σ : AH O) (e : Env) (x : X) (e' : Env) (σ' : AH O) : Prop :=
  ∀ (ρ : Inj) (fp : Fp) (a : Act) (w : World), EnvRel n ρ e a → Rel RO P ρ fp σ w →
    ∀ Q : Exit → Act → World → Prop, (∀ a' w' ρ' fp', EnvRel n ρ' e' a' → a'.defers = a.defers → (∀ t, t ∉ writesOf c → a'.tmps.getD t undef = a.tmps.getD t undef) →
      Post RO P (· < σ.next) ρ fp σ w ρ' fp' σ' w' → Q x.out a' w') → c.wp P Q a w

/-- every slot that is written is there -/
def dstsOK (n : Nat) (c : Code) : Bool := (writesOf c).all fun t => Nat.blt t n
theorem dstsOK_spec {c : Code} (h : dstsOK n c = true) : ∀ t ∈ writesOf c, t < n := fun t ht => by
  have := List.all_eq_true.1 h t ht
  exact Nat.le_of_ble_eq_true this

theorem joinK_spec {an : Ann} {ws : List Nat} {e : Env} {here : X → Bool} {body : {R : Type} → (X → Env → AH O → Option R) → Option R} {D : X → Env → AH O → Prop}
    (hbody : ∀ {R : Type} (K : X → Env → AH O → Option R) (r : R), body K = some r → ∃ x e' σ', K x e' σ' = some r ∧ D x e' σ') {R : Type} {K : X → Env → AH O → Option R} {r : R} (h : joinK an ws e here body K = some r) :
    ∃ x e1 σ1, D x e1 σ1 ∧ ((here x = true ∧ ∃ e2, K .norm e2 σ1 = some r ∧ ∀ t, e2 t = e1 t ∨ e2 t = .u ∨ (t ∉ ws ∧ e2 t = e t)) ∨ (here x = false ∧ K x e1 σ1 = some r)) := by
  unfold joinK at h
  split at h
  · rename_i slots _ _
    obtain ⟨r0, h0, h⟩ := Option.bind_eq_some_iff.1 h
    obtain ⟨x, e1, σ1, h1, h2⟩ := hbody _ _ h0
    cases hx : here x with
    | false => rw [hx] at h1; cases h1
    | true =>
      rw [hx] at h1
      simp only [cond_true, Option.some.injEq] at h1
      subst h1
      obtain ⟨e', k1, k2⟩ := join_env h
      exact ⟨x, e1, σ1, h2, .inl ⟨hx, e', k1, k2⟩⟩
  · rename_i slots _ _
    unfold bindS at h
    split at h
    · rename_i r0 h0
      obtain ⟨x, e1, σ1, h1, h2⟩ := hbody _ _ h0
      cases hx : here x with
      | false =>
        rw [hx] at h1
        simp only [cond_false, Option.map_eq_some_iff] at h1
        obtain ⟨_, _, h1⟩ := h1; cases h1
      | true =>
        rw [hx] at h1
        simp only [cond_true, Option.some.injEq, Sum.inl.injEq] at h1
        subst h1
        obtain ⟨e', k1, k2⟩ := join_env h
        exact ⟨x, e1, σ1, h2, .inl ⟨hx, e', k1, k2⟩⟩
    · rename_i r0 h0
      obtain ⟨x, e1, σ1, h1, h2⟩ := hbody _ _ h0
      simp only [Option.some.injEq] at h
      subst h
      cases hx : here x with
      | true => rw [hx] at h1; simp at h1
      | false =>
        rw [hx] at h1
        simp only [cond_false, Option.map_eq_some_iff, Sum.inr.injEq] at h1
        obtain ⟨r1, h1, rfl⟩ := h1
        exact ⟨x, e1, σ1, h2, .inr ⟨hx, h1⟩⟩
    · cases h
  · obtain ⟨x, e1, σ1, h1, h2⟩ := hbody _ _ h
    cases hx : here x with
    | true => rw [hx] at h1; exact ⟨x, e1, σ1, h2, .inl ⟨hx, e1, h1, fun t => .inl rfl⟩⟩
    | false => rw [hx] at h1; exact ⟨x, e1, σ1, h2, .inr ⟨hx, h1⟩⟩

theorem EnvRel.join {ρ ρ' : Inj} {e e1 e2 : Env} {ws : List Nat} {a a' : Act} (he : EnvRel n ρ e a) (hle : ρ.le ρ') (h1 : EnvRel n ρ' e1 a') (hk : ∀ t, t ∉ ws → a'.tmps.getD t undef = a.tmps.getD t undef)
    (h : ∀ t, e2 t = e1 t ∨ e2 t = .u ∨ (t ∉ ws ∧ e2 t = e t)) : EnvRel n ρ' e2 a' :=
  ⟨h1.size, fun t => by
    rcases h t with q | q | ⟨q1, q⟩
    · rw [q]; exact h1.get t
    · rw [q]; exact .u _
    · rw [q, hk t q1]; exact (he.get t).mono hle⟩

theorem loopF_spec {S T : Type} {f : S → Option (S ⊕ T)} {s : S} {t : T} (h : loopF f s = some t) : ∃ n, loopN f n s = some t := by
  unfold loopF at h
  split at h
  · rename_i hh
    cases h
    exact ⟨_, Classical.choose_spec (Classical.choose_spec hh)⟩
  · cases h

theorem bindS_spec {S R : Type} {m : Option (S ⊕ R)} {f : S → Option R} {r : R} (h : bindS m f = some r) : (∃ s, m = some (.inl s) ∧ f s = some r) ∨ m = some (.inr r) := by
  unfold bindS at h
  split at h
  · exact .inl ⟨_, rfl, h⟩
  · cases h; exact .inr rfl
  · cases h

theorem rounds_mono {c : Code} {Q Q' : Exit → Act → World → Prop} (hq : ∀ e a w, Q e a w → Q' e a w) : ∀ (n : Nat) (a : Act) (w : World), Code.rounds P c Q n a w → Code.rounds P c Q' n a w
  | 0, _, _, h => h
  | n + 1, a, w, h => wp_mono h fun e a' w' h' => by
    cases e <;> first | exact rounds_mono hq n a' w' h' | exact hq _ _ _ h'

/-- A FUNCTION's TEXT -/
theorem exec_sound (hG : GSound RO P G) (hm : P.follows .mixedOrders = true) : ∀ (c : Code), dstsOK n c = true → ∀ (an : Ann) {R : Type} (e : Env) (σ : AH O) (K : X → Env → AH O → Option R) (r : R), exec P G c an e σ K = some r →
    ∃ x e' σ', K x e' σ' = some r ∧ CodeOK RO P n c σ e x e' σ'
  | .skip, _, an, R, e, σ, K, r, h => ⟨.norm, e, σ, h, fun ρ fp a w he hrel Q hQ => wp_skip (hQ a w ρ fp he rfl (fun _ _ => rfl) (Post.refl hrel))⟩
  | .label _, _, an, R, e, σ, K, r, h => ⟨.norm, e, σ, h, fun ρ fp a w he hrel Q hQ => wp_label (hQ a w ρ fp he rfl (fun _ _ => rfl) (Post.refl hrel))⟩
  | .exit id, _, an, R, e, σ, K, r, h => ⟨.exit id, e, σ, h, fun ρ fp a w he hrel Q hQ => wp_exit (hQ a w ρ fp he rfl (fun _ _ => rfl) (Post.refl hrel))⟩
  | .ret, _, an, R, e, σ, K, r, h => ⟨.ret, e, σ, h, fun ρ fp a w he hrel Q hQ => wp_ret (hQ a w ρ fp he rfl (fun _ _ => rfl) (Post.refl hrel))⟩
  | .region id ops d, hd, an, R, e, σ, K, r, h => by
    have hdst : ∀ (i : Nat) (o : Oper) (t : Nat), ops.toList[i]? = some o → o.dst = some t → t < n := fun i o t ho ht => dstsOK_spec hd t (dstsOf_mem ho ht)
    cases d with
    | false =>
      obtain ⟨e', σ', h1, h2⟩ := region_seq_sound hG (id := id) hdst h
      exact ⟨.norm, e', σ', h1, h2⟩
    | true =>
      obtain ⟨e', σ', h1, h2⟩ := region_draw_sound hG hm (id := id) hdst h
      exact ⟨.norm, e', σ', h1, h2⟩
  | .seq a b, hd, an, R, e, σ, K, r, h => by
    have hda : dstsOK n a = true := List.all_eq_true.2 fun t ht => List.all_eq_true.1 hd t (by simp [writesOf, ht])
    have hdb : dstsOK n b = true := List.all_eq_true.2 fun t ht => List.all_eq_true.1 hd t (by simp [writesOf, ht])
    obtain ⟨x, e1, σ1, h1, h2⟩ := exec_sound hG hm a hda an.l e σ _ r h
    have other : x ≠ .norm → K x e1 σ1 = some r → ∃ x e' σ', K x e' σ' = some r ∧ CodeOK RO P n (.seq a b) σ e x e' σ' := fun hx hk => by
      refine ⟨x, e1, σ1, hk, fun ρ fp ac w he hrel Q hQ => wp_seq (h2 ρ fp ac w he hrel _ fun a' w' ρ' fp' k1 k2 k3 k4 => ?_)⟩
      have := hQ a' w' ρ' fp' k1 k2 (fun t ht => k3 t (fun h => ht (by simp [writesOf, h]))) k4
      cases x <;> first | exact this | exact absurd rfl hx
    cases x with
    | norm =>
      simp only at h1
      obtain ⟨x, e2, σ2, h3, h4⟩ := exec_sound hG hm b hdb an.r e1 σ1 K r h1
      refine ⟨x, e2, σ2, h3, fun ρ fp ac w he hrel Q hQ => wp_seq (h2 ρ fp ac w he hrel _ fun a' w' ρ' fp' k1 k2 k3 k4 => ?_)⟩
      refine h4 ρ' fp' a' w' k1 k4.rel Q fun a'' w'' ρ'' fp'' l1 l2 l3 l4 => ?_
      refine hQ a'' w'' ρ'' fp'' l1 (l2.trans k2) (fun t ht => (l3 t (fun h => ht (by simp [writesOf, h]))).trans (k3 t (fun h => ht (by simp [writesOf, h])))) ?_
      exact k4.trans (l4.mono fun b hb => Nat.lt_of_lt_of_le hb k4.next)
    | exit id => exact other (by simp) h1
    | ret => exact other (by simp) h1
  | .cond c a b, hd, an, R, e, σ, K, r, h => by
    have hda : dstsOK n a = true := List.all_eq_true.2 fun t ht => List.all_eq_true.1 hd t (by simp [writesOf, ht])
    have hdb : dstsOK n b = true := List.all_eq_true.2 fun t ht => List.all_eq_true.1 hd t (by simp [writesOf, ht])
    simp only [exec] at h
    split at h
    · rename_i t ht
      have hcode : ∀ {x e' σ'}, CodeOK RO P n (if t = true then a else b) σ e x e' σ' → CodeOK RO P n (.cond c a b) σ e x e' σ' := fun {x e' σ'} hh ρ fp ac w he hrel Q hQ => by
        have hc : ac.eval c = .bool t := by
          have := he.ev c; rw [ht] at this; exact this.b_inv
        refine wp_cond hc (hh ρ fp ac w he hrel Q fun a' w' ρ' fp' k1 k2 k3 k4 => hQ a' w' ρ' fp' k1 k2 (fun q hq => k3 q (fun h => hq ?_)) k4)
        cases t
        · simp only [Bool.false_eq_true, if_false] at h; simp [writesOf, h]
        · simp only [if_true] at h; simp [writesOf, h]
      obtain ⟨x, e1, σ1, h1, h2⟩ := joinK_spec (D := fun x e' σ' => CodeOK RO P n (.cond c a b) σ e x e' σ') (fun {R} K r hb => by
        cases t with
        | true =>
          obtain ⟨x, e', σ', g1, g2⟩ := exec_sound hG hm a hda an.l e σ K r hb
          exact ⟨x, e', σ', g1, hcode (by simpa using g2)⟩
        | false =>
          obtain ⟨x, e', σ', g1, g2⟩ := exec_sound hG hm b hdb an.r e σ K r hb
          exact ⟨x, e', σ', g1, hcode (by simpa using g2)⟩) h
      rcases h2 with ⟨hx, e2, g1, g2⟩ | ⟨hx, g1⟩
      · obtain rfl : x = .norm := by cases x <;> first | rfl | cases hx
        exact ⟨.norm, e2, σ1, g1, fun ρ fp ac w he hrel Q hQ => h1 ρ fp ac w he hrel Q fun a' w' ρ' fp' k1 k2 k3 k4 => hQ a' w' ρ' fp' (he.join k4.le k1 k3 g2) k2 k3 k4⟩
      · exact ⟨x, e1, σ1, g1, h1⟩
    · cases h
  | .block id c, hd, an, R, e, σ, K, r, h => by
    simp only [exec] at h
    obtain ⟨x, e1, σ1, h1, h2⟩ := joinK_spec (D := fun x e' σ' => CodeOK RO P n c σ e x e' σ') (fun {R} K r hb => by
      obtain ⟨x, e', σ', g1, g2⟩ := exec_sound hG hm c hd an.l e σ K r hb
      exact ⟨x, e', σ', g1, g2⟩) h
    rcases h2 with ⟨hx, e2, g1, g2⟩ | ⟨hx, g1⟩
    · refine ⟨.norm, e2, σ1, g1, fun ρ fp ac w he hrel Q hQ => wp_block (h1 ρ fp ac w he hrel _ fun a' w' ρ' fp' k1 k2 k3 k4 => ?_)⟩
      have := hQ a' w' ρ' fp' (he.join k4.le k1 k3 g2) k2 k3 k4
      cases x with
      | norm => exact this
      | exit i =>
        have : i = id := Nat.eq_of_beq_eq_true hx
        subst this
        simp only [X.out, Exit.inBlock, if_true]
        assumption
      | ret => cases hx
    · refine ⟨x, e1, σ1, g1, fun ρ fp ac w he hrel Q hQ => wp_block (h1 ρ fp ac w he hrel _ fun a' w' ρ' fp' k1 k2 k3 k4 => ?_)⟩
      have := hQ a' w' ρ' fp' k1 k2 k3 k4
      cases x with
      | norm => cases hx
      | exit i =>
        have hne : i ≠ id := fun e => by subst e; simp [X.isOut] at hx
        simp only [X.out, Exit.inBlock, if_neg hne]
        assumption
      | ret => exact this
  | .loop c, hd, an, R, e, σ, K, r, h => by
    -- one lemma for both kinds: T is what the loop ends in
    have key : ∀ {T : Type} (slots : List (Nat × Ty)) (l : Ann) (KK : X → Env → AH O → Option ((List AV × AH O) ⊕ T)) (hK : ∀ e1 σ1, KK .norm e1 σ1 = some (Sum.inl (packE slots e1, σ1))) (hK' : ∀ x e1 σ1, x ≠ .norm → ∀ s, KK x e1 σ1 ≠ some (Sum.inl s)),
        ∀ (m : Nat) (e0 : Env) (σ0 : AH O) (t : T), loopN (fun r : List AV × AH O => unpackK slots 0 r.1 (Env.mask (writesOf c) e) fun e => exec P G c l e r.2 KK) m (packE slots e0, σ0) = some t →
        ∃ x e1 σ1, x ≠ .norm ∧ KK x e1 σ1 = some (Sum.inr t) ∧ ∀ (ρ0 : Inj) (fp0 : Fp) (a0 : Act) (w0 : World), EnvRel n ρ0 e a0 → ∀ (ρ : Inj) (fp : Fp) (a : Act) (w : World), EnvRel n ρ e0 a → ρ0.le ρ → (∀ t, t ∉ writesOf c → a.tmps.getD t undef = a0.tmps.getD t undef) → a.defers = a0.defers →
          Rel RO P ρ fp σ0 w → ∀ Q : Exit → Act → World → Prop, (∀ a' w' ρ' fp', EnvRel n ρ' e1 a' → a'.defers = a0.defers → (∀ t, t ∉ writesOf c → a'.tmps.getD t undef = a0.tmps.getD t undef) → Post RO P (· < σ0.next) ρ fp σ0 w ρ' fp' σ1 w' → Q x.out a' w') →
            Code.rounds P c Q m a w := by
      intro T slots l KK hK hK' m
      induction m with
      | zero => intro e0 σ0 t h; cases h
      | succ m ih =>
        intro e0 σ0 t h
        simp only [loopN] at h
        have hstep : ∀ y, unpackK slots 0 (packE slots e0) (Env.mask (writesOf c) e) (fun e => exec P G c l e σ0 KK) = some y →
            ∃ x e1 σ1, KK x e1 σ1 = some y ∧ ∀ (ρ0 : Inj) (fp0 : Fp) (a0 : Act) (w0 : World), EnvRel n ρ0 e a0 → ∀ (ρ : Inj) (fp : Fp) (a : Act) (w : World), EnvRel n ρ e0 a → ρ0.le ρ → (∀ t, t ∉ writesOf c → a.tmps.getD t undef = a0.tmps.getD t undef) →
              Rel RO P ρ fp σ0 w → ∀ Q : Exit → Act → World → Prop, (∀ a' w' ρ' fp', EnvRel n ρ' e1 a' → a'.defers = a.defers → (∀ t, t ∉ writesOf c → a'.tmps.getD t undef = a0.tmps.getD t undef) → Post RO P (· < σ0.next) ρ fp σ0 w ρ' fp' σ1 w' → Q x.out a' w') → c.wp P Q a w := by
          intro y hy
          obtain ⟨e', k1, k2⟩ := join_env hy
          obtain ⟨x, e1, σ1, g1, g2⟩ := exec_sound hG hm c hd l e' σ0 KK y k1
          refine ⟨x, e1, σ1, g1, fun ρ0 fp0 a0 w0 he0 ρ fp a w he hle hkeep hrel Q hQ => ?_⟩
          have hee : EnvRel n ρ e' a := he0.join hle he hkeep k2
          refine g2 ρ fp a w hee hrel Q fun a' w' ρ' fp' l1 l2 l3 l4 => hQ a' w' ρ' fp' l1 l2 (fun t ht => (l3 t ht).trans (hkeep t ht)) l4
        rcases bindS_spec h with ⟨s, hs, h2⟩ | hs
        · obtain ⟨x, e1, σ1, g1, g2⟩ := hstep _ hs
          obtain rfl : x = .norm := by
            cases x with
            | norm => rfl
            | exit i => exact absurd g1 (hK' _ _ _ (by simp) _)
            | ret => exact absurd g1 (hK' _ _ _ (by simp) _)
          rw [hK] at g1
          simp only [Option.some.injEq, Sum.inl.injEq] at g1
          subst g1
          obtain ⟨x, e2, σ2, q1, q2, q3⟩ := ih e1 σ1 t h2
          refine ⟨x, e2, σ2, q1, q2, fun ρ0 fp0 a0 w0 he0 ρ fp a w he hle hkeep hdf hrel Q hQ => ?_⟩
          rw [rounds_succ]
          refine g2 ρ0 fp0 a0 w0 he0 ρ fp a w he hle hkeep hrel _ fun a' w' ρ' fp' l1 l2 l3 l4 => ?_
          refine q3 ρ0 fp0 a0 w0 he0 ρ' fp' a' w' l1 (hle.trans l4.le) l3 (l2.trans hdf) l4.rel Q fun a'' w'' ρ'' fp'' m1 m2 m3 m4 => ?_
          exact hQ a'' w'' ρ'' fp'' m1 m2 m3 (l4.trans (m4.mono fun b hb => Nat.lt_of_lt_of_le hb l4.next))
        · obtain ⟨x, e1, σ1, g1, g2⟩ := hstep _ hs
          have hx : x ≠ .norm := fun e => by rw [e, hK] at g1; simp at g1
          refine ⟨x, e1, σ1, hx, g1, fun ρ0 fp0 a0 w0 he0 ρ fp a w he hle hkeep hdf hrel Q hQ => ?_⟩
          rw [rounds_succ]
          refine g2 ρ0 fp0 a0 w0 he0 ρ fp a w he hle hkeep hrel _ fun a' w' ρ' fp' l1 l2 l3 l4 => ?_
          have := hQ a' w' ρ' fp' l1 (l2.trans hdf) l3 l4
          cases x <;> first | exact absurd rfl hx | exact this
    simp only [exec] at h
    split at h
    · rename_i xid slots out l
      obtain ⟨r0, hr0, h⟩ := Option.bind_eq_some_iff.1 h
      obtain ⟨m, hm'⟩ := loopF_spec hr0
      obtain ⟨x, e1, σ1, hx, q1, q2⟩ := key slots l _ (fun _ _ => rfl) (fun x e1 σ1 hx s hh => by
        cases x with
        | norm => exact hx rfl
        | ret => cases hh
        | exit i => simp only at hh; cases hb : Nat.beq i xid <;> rw [hb] at hh <;> simp at hh) m e σ r0 hm'
      cases x with
      | norm => exact absurd rfl hx
      | ret => cases q1
      | exit id =>
        simp only at q1
        obtain ⟨hid, q3⟩ := bif_some q1
        have hid := Nat.eq_of_beq_eq_true hid
        subst hid
        simp only [Option.some.injEq, Sum.inr.injEq] at q3
        subst q3
        obtain ⟨e2, k1, k2⟩ := join_env h
        refine ⟨.exit id, e2, σ1, k1, fun ρ fp a w he hrel Q hQ => wp_loop_rounds m ?_⟩
        exact q2 ρ fp a w he ρ fp a w he (Inj.le_refl _) (fun _ _ => rfl) rfl hrel Q fun a' w' ρ' fp' l1 l2 l3 l4 => hQ a' w' ρ' fp' (he.join l4.le l1 l3 k2) l2 l3 l4
    · rename_i xid slots out l
      have hno : ∀ (x : X) (e1 : Env) (σ1 : AH O), x ≠ .norm → ∀ s, (match x with
            | .norm => some (Sum.inl (packE slots e1, σ1))
            | .exit id => bif Nat.beq id xid then some (Sum.inr (Sum.inl (packE out e1, σ1))) else (K (.exit id) e1 σ1).map fun r => Sum.inr (Sum.inr r)
            | .ret => (K .ret e1 σ1).map fun r => Sum.inr (Sum.inr r) : Option ((List AV × AH O) ⊕ ((List AV × AH O) ⊕ R))) ≠ some (Sum.inl s) := fun x e1 σ1 hx s hh => by
        cases x with
        | norm => exact hx rfl
        | ret => simp at hh
        | exit i => simp only at hh; cases hb : Nat.beq i xid <;> rw [hb] at hh <;> simp at hh
      rcases bindS_spec h with ⟨r0, hr0, h⟩ | hr0
      · obtain ⟨m, hm'⟩ := loopF_spec hr0
        obtain ⟨x, e1, σ1, hx, q1, q2⟩ := key slots l _ (fun _ _ => rfl) hno m e σ (Sum.inl r0) hm'
        cases x with
        | norm => exact absurd rfl hx
        | ret => simp at q1
        | exit id =>
          simp only at q1
          cases hid : Nat.beq id xid with
          | false => rw [hid] at q1; simp at q1
          | true =>
            rw [hid] at q1
            have hid := Nat.eq_of_beq_eq_true hid
            subst hid
            simp only [cond_true, Option.some.injEq, Sum.inr.injEq, Sum.inl.injEq] at q1
            subst q1
            obtain ⟨e2, k1, k2⟩ := join_env h
            refine ⟨.exit id, e2, σ1, k1, fun ρ fp a w he hrel Q hQ => wp_loop_rounds m ?_⟩
            exact q2 ρ fp a w he ρ fp a w he (Inj.le_refl _) (fun _ _ => rfl) rfl hrel Q fun a' w' ρ' fp' l1 l2 l3 l4 => hQ a' w' ρ' fp' (he.join l4.le l1 l3 k2) l2 l3 l4
      · obtain ⟨m, hm'⟩ := loopF_spec hr0
        obtain ⟨x, e1, σ1, hx, q1, q2⟩ := key slots l _ (fun _ _ => rfl) hno m e σ (Sum.inr r) hm'
        have fin : K x e1 σ1 = some r → ∃ x e' σ', K x e' σ' = some r ∧ CodeOK RO P n (.loop c) σ e x e' σ' := fun hk =>
          ⟨x, e1, σ1, hk, fun ρ fp a w he hrel Q hQ => wp_loop_rounds m (q2 ρ fp a w he ρ fp a w he (Inj.le_refl _) (fun _ _ => rfl) rfl hrel Q fun a' w' ρ' fp' l1 l2 l3 l4 => hQ a' w' ρ' fp' l1 l2 l3 l4)⟩
        cases x with
        | norm => exact absurd rfl hx
        | exit id =>
          simp only at q1
          cases hid : Nat.beq id xid with
          | true => rw [hid] at q1; simp at q1
          | false =>
            rw [hid] at q1
            simp only [cond_false, Option.map_eq_some_iff, Sum.inr.injEq] at q1
            obtain ⟨r1, q1, e⟩ := q1
            subst e
            exact fin q1
        | ret =>
          simp only [Option.map_eq_some_iff, Sum.inr.injEq] at q1
          obtain ⟨r1, q1, e⟩ := q1
          subst e
          exact fin q1
    · cases h
  | .scope c, hd, an, R, e, σ, K, r, h => by
    simp only [exec] at h
    obtain ⟨x, e1, σ1, g1, g2⟩ := exec_sound hG hm c hd an.l e σ K r h
    refine ⟨x, e1, σ1, g1, fun ρ fp a w he hrel Q hQ => wp_scope_straight (g2 ρ fp a w he hrel _ fun a' w' ρ' fp' k1 k2 k3 k4 => ?_)⟩
    have := hQ a' w' ρ' fp' k1 k2 k3 k4
    cases x <;> exact this
  | .rangeFunc _ _ _ _, _, an, R, e, σ, K, r, h => by cases h
  | .goto _, _, an, R, e, σ, K, r, h => by cases h
  | .refuse _, _, an, R, e, σ, K, r, h => by cases h

end Go.Abs
