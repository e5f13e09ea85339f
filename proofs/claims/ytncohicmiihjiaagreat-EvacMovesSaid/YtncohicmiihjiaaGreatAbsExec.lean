/-
  AbsExec: a function's text does what 'exec' says.
-/
import Derived.Test.YtncohicmiihjiaaGreatAbsDraw
import Derived.Scope
import Derived.LoopNIn
import Derived.RangeFuncLeaves
set_option linter.unusedVariables false
set_option linter.unusedSimpArgs false
set_option linter.constructorNameAsVariable false
namespace Go.Abs
open Go
variable {O : Type} {RO : O -> Loc -> (Nat -> Option Obj) -> Prop} {P : Program} {G : List (Nat × Sm O)} {n : Nat}
def X.out : X -> Exit
 | .norm => .normal
 | .exit id => .exit id
 | .ret => .ret
structure Marks (B0 : Nat) (fp : Fp) (w : World) (ds : List Deferred) : Prop where
 sz : B0 <= w.heap.size
 nd : (ds.map (·.target)).Nodup
 it : ∀ d ∈ ds, ∃ r, d.target = .collected r /\ B0 <= r /\ w.heap[r]? = some (.deferred (some [])) /\ ∀ b, fp b r = none
theorem Marks.post {B0 : Nat} {S : Nat -> Prop} {ρ ρ' : Inj} {fp fp' : Fp} {J J' : AH O} {w w' : World} {ds : List Deferred} (h : Marks B0 fp w ds) (p : Post RO P S ρ fp J w ρ' fp' J' w') : Marks B0 fp' w' ds :=
 ⟨Nat.le_trans h.sz p.fr.size, h.nd, fun d hd => by
  obtain ⟨r, h1, h2, h3, h4⟩ := h.it d hd
  have hlt := (Array.getElem?_eq_some_iff.1 h3).1
  refine ⟨r, h1, h2, (p.fr.keep r hlt h4).trans h3, fun b => ?_⟩
  cases hb : fp' b r with
  | none => rfl
  | some o => obtain ⟨c, hc⟩ := p.grow b r hlt (by rw [hb]; simp); exact absurd (h4 c) hc⟩
def CodeOK (RO : O -> Loc -> (Nat -> Option Obj) -> Prop) (P : Program) (n : Nat) (ro : Option Nat) (c : Code) (J : AH O) (e : Env) (x : X) (e' : Env) (J' : AH O) : Prop :=
 ∀ (ρ : Inj) (fp : Fp) (a : Act) (w : World), EnvRel n ρ e a -> Rel RO P ρ fp J w ->
  ∀ Q : Exit -> Act -> World -> Prop, (∀ a' w' ρ' fp', EnvRel n ρ' e' a' -> (∀ B0, Marks B0 fp w a.defers -> Marks B0 fp' w' a'.defers) -> (∀ t, t ∉ writesOf c -> a'.tmps.getD t undef = a.tmps.getD t undef) ->
   Post RO P (· < J.next) ρ fp J w ρ' fp' J' w' -> Q x.out a' w') -> c.wpIn (Fw ro) 0 P Q a w
def dstsOK (n : Nat) (c : Code) : Bool := (writesOf c).all fun t => Nat.blt t n
theorem dstsOK_spec {c : Code} (h : dstsOK n c = true) : ∀ t ∈ writesOf c, t < n := fun t ht => by
 have := List.all_eq_true.1 h t ht
 exact Nat.le_of_ble_eq_true this
theorem joinK_spec {an : Ann} {ws : List Nat} {e : Env} {here : X -> Bool} {body : {R : Type} -> (X -> Env -> AH O -> Option R) -> Option R} {D : X -> Env -> AH O -> Prop}
  (hbody : ∀ {R : Type} (K : X -> Env -> AH O -> Option R) (r : R), body K = some r -> ∃ x e' J', K x e' J' = some r /\ D x e' J') {R : Type} {K : X -> Env -> AH O -> Option R} {r : R} (h : joinK an ws e here body K = some r) :
  ∃ x e1 J1, D x e1 J1 /\ ((here x = true /\ ∃ e2, K .norm e2 J1 = some r /\ ∀ t, e2 t = e1 t ∨ e2 t = .u ∨ (t ∉ ws /\ e2 t = e t)) ∨ (here x = false /\ K x e1 J1 = some r)) := by
 unfold joinK at h
 split at h
 ·rename_i slots _ _
  obtain ⟨r0, h0, h⟩ := Option.bind_eq_some_iff.1 h
  obtain ⟨x, e1, J1, h1, h2⟩ := hbody _ _ h0
  cases hx : here x with
  | false => rw [hx] at h1; cases h1
  | true =>
   rw [hx] at h1
   simp only [cond_true, Option.some.injEq] at h1
   subst h1
   obtain ⟨e', k1, k2⟩ := join_env h
   exact ⟨x, e1, J1, h2, .inl ⟨hx, e', k1, k2⟩⟩
 ·rename_i slots _ _
  unfold bindS at h
  split at h
  ·rename_i r0 h0
   obtain ⟨x, e1, J1, h1, h2⟩ := hbody _ _ h0
   cases hx : here x with
   | false =>
    rw [hx] at h1
    simp only [cond_false, Option.map_eq_some_iff] at h1
    obtain ⟨_, _, h1⟩ := h1; cases h1
   | true =>
    rw [hx] at h1
    simp only [cond_true, Option.some.injEq, Sum.inl.injEq] at h1
    subst h1
    obtain ⟨e', k1, k2⟩ := join_env h
    exact ⟨x, e1, J1, h2, .inl ⟨hx, e', k1, k2⟩⟩
  ·rename_i r0 h0
   obtain ⟨x, e1, J1, h1, h2⟩ := hbody _ _ h0
   simp only [Option.some.injEq] at h
   subst h
   cases hx : here x with
   | true => rw [hx] at h1; simp at h1
   | false =>
    rw [hx] at h1
    simp only [cond_false, Option.map_eq_some_iff, Sum.inr.injEq] at h1
    obtain ⟨r1, h1, rfl⟩ := h1
    exact ⟨x, e1, J1, h2, .inr ⟨hx, h1⟩⟩
  ·cases h
 ·obtain ⟨x, e1, J1, h1, h2⟩ := hbody _ _ h
  cases hx : here x with
  | true => rw [hx] at h1; exact ⟨x, e1, J1, h2, .inl ⟨hx, e1, h1, fun t => .inl rfl⟩⟩
  | false => rw [hx] at h1; exact ⟨x, e1, J1, h2, .inr ⟨hx, h1⟩⟩
theorem EnvRel.join {ρ ρ' : Inj} {e e1 e2 : Env} {ws : List Nat} {a a' : Act} (he : EnvRel n ρ e a) (hle : ρ.le ρ') (h1 : EnvRel n ρ' e1 a') (hk : ∀ t, t ∉ ws -> a'.tmps.getD t undef = a.tmps.getD t undef)
  (h : ∀ t, e2 t = e1 t ∨ e2 t = .u ∨ (t ∉ ws /\ e2 t = e t)) : EnvRel n ρ' e2 a' :=
 ⟨h1.size, fun t => by
  rcases h t with q | q | ⟨q1, q⟩
  ·rw [q]; exact h1.get t
  ·rw [q]; exact .u _
  ·rw [q, hk t q1]; exact (he.get t).mono hle⟩
theorem loopF_spec {S T : Type} {f : S -> Option (S ⊕ T)} {s : S} {t : T} (h : loopF f s = some t) : ∃ n, loopN f n s = some t := by
 unfold loopF at h
 split at h
 ·rename_i t' h'
  cases h
  exact ⟨_, h'⟩
 ·split at h
  ·rename_i hh
   cases h
   exact ⟨_, Classical.choose_spec (Classical.choose_spec hh)⟩
  ·cases h
theorem bindS_spec {S R : Type} {m : Option (S ⊕ R)} {f : S -> Option R} {r : R} (h : bindS m f = some r) : (∃ s, m = some (.inl s) /\ f s = some r) ∨ m = some (.inr r) := by
 unfold bindS at h
 split at h
 ·exact .inl ⟨_, rfl, h⟩
 ·cases h; exact .inr rfl
 ·cases h
theorem wpIn_scope_straight {ro : Option Nat} {Q : Exit -> Act -> World -> Prop} {a : Act} {w : World} {c : Code} (h : c.wpIn (Fw ro) 0 P (Exit.noGoto Q) a w) : (Code.scope c).wpIn (Fw ro) 0 P Q a w := by
 intro b k cs hro hb hr
 have h0 : (lone (b.atR a (.code (.scope c) :: k)) cs w).fenced P (Fw ro) := fenced_calm hb hr rfl
 have s1 : step P (lone (b.atR a (.code (.scope c) :: k)) cs w) = .next (lone (b.atR a (.code c :: .inScope c :: k)) cs w) := step_lone_go (by simp [stepG, stepG.exec, Frame.atR])
 have s2 : ∀ a w, step P (lone (b.atR a (.inScope c :: k)) cs w) = .next (lone (b.atR a k) cs w) := fun a w => step_lone_go (by simp [stepG, stepG.exec, Frame.atR])
 obtain ⟨e, a₁, w₁, hq, harr⟩ := h b (.inScope c :: k) cs hro hb hr
 cases e with
 | normal => exact ⟨.normal, a₁, w₁, hq, .head h0 s1 (StepsIn.trans harr (.one (fenced_calm hb hr rfl) (s2 _ _)))⟩
 | exit id =>
  have hx : exitTo id (.inScope c :: k) = exitTo id k := by simp [exitTo]
  exact ⟨_, a₁, w₁, hq, fun k' hk => .head h0 s1 (harr.1 k' (by rw [hx]; exact hk)), fun hr' hk => let ⟨k₁, h1, h2⟩ := harr.2 hr' (by rw [hx]; exact hk); ⟨k₁, h1, .head h0 s1 h2⟩⟩
 | goto l => exact hq.elim
 | ret => exact ⟨_, a₁, w₁, hq, .of_steps (.one h0 s1) harr⟩
 | panic ch => exact ⟨_, a₁, w₁, hq, .of_steps (.one h0 s1) harr⟩
 | outgrown => exact ⟨_, a₁, w₁, hq, .of_steps (.one h0 s1) harr⟩
theorem outsK_spec {R : Type} {K : X -> Option R} {s : Nat} {r : R} : ∀ {cs : List Nat}, outsK cs s K = some r -> 3 <= s /\ K (xOf s) = some r
 | [], h => by cases h
 | c :: cs, h => by
  unfold outsK at h
  cases hb : Nat.ble 3 c && Nat.beq s c with
  | true =>
   rw [hb] at h
   simp only [Bool.and_eq_true] at hb
   have := Nat.eq_of_beq_eq_true hb.2
   subst this
   exact ⟨Nat.le_of_ble_eq_true hb.1, h⟩
  | false => rw [hb] at h; exact outsK_spec h
theorem exec_sound (hG : GSound RO P G) (hm : P.follows .mixedOrders = true) {ro : Option Nat} : ∀ (c : Code), dstsOK n c = true -> (ro = none ∨ plain c = true) -> ∀ (an : Ann), (∀ p, p ∈ annSites c an -> siteOf P p.1 = some p.2) -> ∀ {R : Type} (e : Env) (J : AH O) (K : X -> Env -> AH O -> Option R) (r : R), exec P G c an e J K = some r ->
  ∃ x e' J', K x e' J' = some r /\ CodeOK RO P n ro c J e x e' J'
 | .skip, _, _, an, _, R, e, J, K, r, h => ⟨.norm, e, J, h, fun ρ fp a w he hrel Q hQ => wpIn_skip (hQ a w ρ fp he (fun _ h => h) (fun _ _ => rfl) (Post.refl hrel))⟩
 | .label _, _, _, an, _, R, e, J, K, r, h => ⟨.norm, e, J, h, fun ρ fp a w he hrel Q hQ => wpIn_label (hQ a w ρ fp he (fun _ h => h) (fun _ _ => rfl) (Post.refl hrel))⟩
 | .exit id, _, _, an, _, R, e, J, K, r, h => ⟨.exit id, e, J, h, fun ρ fp a w he hrel Q hQ => wpIn_exit (hQ a w ρ fp he (fun _ h => h) (fun _ _ => rfl) (Post.refl hrel))⟩
 | .ret, _, _, an, _, R, e, J, K, r, h => ⟨.ret, e, J, h, fun ρ fp a w he hrel Q hQ => wpIn_ret (hQ a w ρ fp he (fun _ h => h) (fun _ _ => rfl) (Post.refl hrel))⟩
 | .region id ops d, hd, hp, an, hs, R, e, J, K, r, h => by
  have hdst : ∀ (i : Nat) (o : Oper) (t : Nat), ops.toList[i]? = some o -> o.dst = some t -> t < n := fun i o t ho ht => dstsOK_spec hd t (dstsOf_mem ho ht)
  cases d with
  | false =>
   obtain ⟨e', J', h1, h2⟩ := region_seq_sound hG (id := id) hdst h
   exact ⟨.norm, e', J', h1, fun ρ fp a w he hrel Q hQ => h2 ρ fp a w he hrel ro Q fun a' w' ρ' fp' k1 k2 k3 k4 => hQ a' w' ρ' fp' k1 (fun B0 hm => by rw [k2]; exact hm.post k4) k3 k4⟩
  | true =>
   obtain ⟨e', J', h1, h2⟩ := region_draw_sound hG hm (id := id) hdst h
   exact ⟨.norm, e', J', h1, fun ρ fp a w he hrel Q hQ => h2 ρ fp a w he hrel ro Q fun a' w' ρ' fp' k1 k2 k3 k4 => hQ a' w' ρ' fp' k1 (fun B0 hm => by rw [k2]; exact hm.post k4) k3 k4⟩
 | .seq a b, hd, hp, an, hs, R, e, J, K, r, h => by
  have hpa : ro = none ∨ plain a = true := hp.imp id fun h => by simp only [plain, Bool.and_eq_true] at h; exact h.1
  have hpb : ro = none ∨ plain b = true := hp.imp id fun h => by simp only [plain, Bool.and_eq_true] at h; exact h.2
  have hsa : ∀ p, p ∈ annSites a an.l -> siteOf P p.1 = some p.2 := fun p h => hs p (by simp only [annSites, List.mem_append]; exact .inl h)
  have hsb : ∀ p, p ∈ annSites b an.r -> siteOf P p.1 = some p.2 := fun p h => hs p (by simp only [annSites, List.mem_append]; exact .inr h)
  have hda : dstsOK n a = true := List.all_eq_true.2 fun t ht => List.all_eq_true.1 hd t (by simp [writesOf, ht])
  have hdb : dstsOK n b = true := List.all_eq_true.2 fun t ht => List.all_eq_true.1 hd t (by simp [writesOf, ht])
  obtain ⟨x, e1, J1, h1, h2⟩ := exec_sound hG hm a hda hpa an.l hsa e J _ r h
  have other : x ≠ .norm -> K x e1 J1 = some r -> ∃ x e' J', K x e' J' = some r /\ CodeOK RO P n ro (.seq a b) J e x e' J' := fun hx hk => by
   refine ⟨x, e1, J1, hk, fun ρ fp ac w he hrel Q hQ => wpIn_seq (h2 ρ fp ac w he hrel _ fun a' w' ρ' fp' k1 k2 k3 k4 => ?_)⟩
   have := hQ a' w' ρ' fp' k1 k2 (fun t ht => k3 t (fun h => ht (by simp [writesOf, h]))) k4
   cases x <;> first | exact this | exact absurd rfl hx
  cases x with
  | norm =>
   simp only at h1
   obtain ⟨x, e2, J2, h3, h4⟩ := exec_sound hG hm b hdb hpb an.r hsb e1 J1 K r h1
   refine ⟨x, e2, J2, h3, fun ρ fp ac w he hrel Q hQ => wpIn_seq (h2 ρ fp ac w he hrel _ fun a' w' ρ' fp' k1 k2 k3 k4 => ?_)⟩
   refine h4 ρ' fp' a' w' k1 k4.rel Q fun a'' w'' ρ'' fp'' l1 l2 l3 l4 => ?_
   refine hQ a'' w'' ρ'' fp'' l1 (fun B0 hm => l2 B0 (k2 B0 hm)) (fun t ht => (l3 t (fun h => ht (by simp [writesOf, h]))).trans (k3 t (fun h => ht (by simp [writesOf, h])))) ?_
   exact k4.trans (l4.mono fun b hb => Nat.lt_of_lt_of_le hb k4.next)
  | exit id => exact other (by simp) h1
  | ret => exact other (by simp) h1
 | .cond c a b, hd, hp, an, hs, R, e, J, K, r, h => by
  have hpa : ro = none ∨ plain a = true := hp.imp id fun h => by simp only [plain, Bool.and_eq_true] at h; exact h.1
  have hpb : ro = none ∨ plain b = true := hp.imp id fun h => by simp only [plain, Bool.and_eq_true] at h; exact h.2
  have hsa : ∀ p, p ∈ annSites a an.l -> siteOf P p.1 = some p.2 := fun p h => hs p (by simp only [annSites, List.mem_append]; exact .inl h)
  have hsb : ∀ p, p ∈ annSites b an.r -> siteOf P p.1 = some p.2 := fun p h => hs p (by simp only [annSites, List.mem_append]; exact .inr h)
  have hda : dstsOK n a = true := List.all_eq_true.2 fun t ht => List.all_eq_true.1 hd t (by simp [writesOf, ht])
  have hdb : dstsOK n b = true := List.all_eq_true.2 fun t ht => List.all_eq_true.1 hd t (by simp [writesOf, ht])
  simp only [exec] at h
  split at h
  ·rename_i t ht
   have hcode : ∀ {x e' J'}, CodeOK RO P n ro (if t = true then a else b) J e x e' J' -> CodeOK RO P n ro (.cond c a b) J e x e' J' := fun {x e' J'} hh ρ fp ac w he hrel Q hQ => by
    have hc : ac.eval c = .bool t := by
     have := he.ev c; rw [ht] at this; exact this.b_inv
    refine wpIn_cond hc (hh ρ fp ac w he hrel Q fun a' w' ρ' fp' k1 k2 k3 k4 => hQ a' w' ρ' fp' k1 k2 (fun q hq => k3 q (fun h => hq ?_)) k4)
    cases t
    ·simp only [Bool.false_eq_true, if_false] at h; simp [writesOf, h]
    ·simp only [if_true] at h; simp [writesOf, h]
   obtain ⟨x, e1, J1, h1, h2⟩ := joinK_spec (D := fun x e' J' => CodeOK RO P n ro (.cond c a b) J e x e' J') (fun {R} K r hb => by
    cases t with
    | true =>
     obtain ⟨x, e', J', g1, g2⟩ := exec_sound hG hm a hda hpa an.l hsa e J K r (Ann.off_some hb)
     exact ⟨x, e', J', g1, hcode (by simpa using g2)⟩
    | false =>
     obtain ⟨x, e', J', g1, g2⟩ := exec_sound hG hm b hdb hpb an.r hsb e J K r (Ann.off_some hb)
     exact ⟨x, e', J', g1, hcode (by simpa using g2)⟩) h
   rcases h2 with ⟨hx, e2, g1, g2⟩ | ⟨hx, g1⟩
   ·obtain rfl : x = .norm := by cases x <;> first | rfl | cases hx
    exact ⟨.norm, e2, J1, g1, fun ρ fp ac w he hrel Q hQ => h1 ρ fp ac w he hrel Q fun a' w' ρ' fp' k1 k2 k3 k4 => hQ a' w' ρ' fp' (he.join k4.le k1 k3 g2) k2 k3 k4⟩
   ·exact ⟨x, e1, J1, g1, h1⟩
  ·cases h
 | .block id c, hd, hp, an, hs, R, e, J, K, r, h => by
  simp only [exec] at h
  obtain ⟨x, e1, J1, h1, h2⟩ := joinK_spec (D := fun x e' J' => CodeOK RO P n ro c J e x e' J') (fun {R} K r hb => by
   obtain ⟨x, e', J', g1, g2⟩ := exec_sound hG hm c hd hp an.l hs e J K r hb
   exact ⟨x, e', J', g1, g2⟩) h
  rcases h2 with ⟨hx, e2, g1, g2⟩ | ⟨hx, g1⟩
  ·refine ⟨.norm, e2, J1, g1, fun ρ fp ac w he hrel Q hQ => wpIn_block (h1 ρ fp ac w he hrel _ fun a' w' ρ' fp' k1 k2 k3 k4 => ?_)⟩
   have := hQ a' w' ρ' fp' (he.join k4.le k1 k3 g2) k2 k3 k4
   cases x with
   | norm => exact this
   | exit i =>
    have : i = id := Nat.eq_of_beq_eq_true hx
    subst this
    simp only [X.out, Exit.inBlock, if_true]
    assumption
   | ret => cases hx
  ·refine ⟨x, e1, J1, g1, fun ρ fp ac w he hrel Q hQ => wpIn_block (h1 ρ fp ac w he hrel _ fun a' w' ρ' fp' k1 k2 k3 k4 => ?_)⟩
   have := hQ a' w' ρ' fp' k1 k2 k3 k4
   cases x with
   | norm => cases hx
   | exit i =>
    have hne : i ≠ id := fun e => by subst e; simp [X.isOut] at hx
    simp only [X.out, Exit.inBlock, if_neg hne]
    assumption
   | ret => exact this
 | .loop c, hd, hp, an, hs, R, e, J, K, r, h => by
  have key : ∀ {T : Type} (slots : List (Nat × Ty)) (l : Ann) (hsl : ∀ p, p ∈ annSites c l -> siteOf P p.1 = some p.2) (KK : X -> Env -> AH O -> Option ((List AV × AH O) ⊕ T)) (hK : ∀ e1 J1, KK .norm e1 J1 = some (Sum.inl (packE slots e1, J1))) (hK' : ∀ x e1 J1, x ≠ .norm -> ∀ s, KK x e1 J1 ≠ some (Sum.inl s)),
    ∀ (m : Nat) (e0 : Env) (J0 : AH O) (t : T), loopN (fun r : List AV × AH O => unpackK slots 0 r.1 (Env.mask (writesOf c) e) fun e => exec P G c l e r.2 KK) m (packE slots e0, J0) = some t ->
    ∃ x e1 J1, x ≠ .norm /\ KK x e1 J1 = some (Sum.inr t) /\ ∀ (ρ0 : Inj) (fp0 : Fp) (a0 : Act) (w0 : World), EnvRel n ρ0 e a0 -> ∀ (ρ : Inj) (fp : Fp) (a : Act) (w : World), EnvRel n ρ e0 a -> ρ0.le ρ -> (∀ t, t ∉ writesOf c -> a.tmps.getD t undef = a0.tmps.getD t undef) ->
     Rel RO P ρ fp J0 w -> ∀ Q : Exit -> Act -> World -> Prop, (∀ a' w' ρ' fp', EnvRel n ρ' e1 a' -> (∀ B0, Marks B0 fp w a.defers -> Marks B0 fp' w' a'.defers) -> (∀ t, t ∉ writesOf c -> a'.tmps.getD t undef = a0.tmps.getD t undef) -> Post RO P (· < J0.next) ρ fp J0 w ρ' fp' J1 w' -> Q x.out a' w') ->
      Code.roundsIn (Fw ro) 0 P c Q m a w := by
   intro T slots l hsl KK hK hK' m
   induction m with
   | zero => intro e0 J0 t h; cases h
   | succ m ih =>
    intro e0 J0 t h
    simp only [loopN] at h
    have hstep : ∀ y, unpackK slots 0 (packE slots e0) (Env.mask (writesOf c) e) (fun e => exec P G c l e J0 KK) = some y ->
      ∃ x e1 J1, KK x e1 J1 = some y /\ ∀ (ρ0 : Inj) (fp0 : Fp) (a0 : Act) (w0 : World), EnvRel n ρ0 e a0 -> ∀ (ρ : Inj) (fp : Fp) (a : Act) (w : World), EnvRel n ρ e0 a -> ρ0.le ρ -> (∀ t, t ∉ writesOf c -> a.tmps.getD t undef = a0.tmps.getD t undef) ->
       Rel RO P ρ fp J0 w -> ∀ Q : Exit -> Act -> World -> Prop, (∀ a' w' ρ' fp', EnvRel n ρ' e1 a' -> (∀ B0, Marks B0 fp w a.defers -> Marks B0 fp' w' a'.defers) -> (∀ t, t ∉ writesOf c -> a'.tmps.getD t undef = a0.tmps.getD t undef) -> Post RO P (· < J0.next) ρ fp J0 w ρ' fp' J1 w' -> Q x.out a' w') -> c.wpIn (Fw ro) 0 P Q a w := by
     intro y hy
     obtain ⟨e', k1, k2⟩ := join_env hy
     obtain ⟨x, e1, J1, g1, g2⟩ := exec_sound hG hm c hd hp l hsl e' J0 KK y k1
     refine ⟨x, e1, J1, g1, fun ρ0 fp0 a0 w0 he0 ρ fp a w he hle hkeep hrel Q hQ => ?_⟩
     have hee : EnvRel n ρ e' a := he0.join hle he hkeep k2
     refine g2 ρ fp a w hee hrel Q fun a' w' ρ' fp' l1 l2 l3 l4 => hQ a' w' ρ' fp' l1 l2 (fun t ht => (l3 t ht).trans (hkeep t ht)) l4
    rcases bindS_spec h with ⟨s, hs, h2⟩ | hs
    ·obtain ⟨x, e1, J1, g1, g2⟩ := hstep _ hs
     obtain rfl : x = .norm := by
      cases x with
      | norm => rfl
      | exit i => exact absurd g1 (hK' _ _ _ (by simp) _)
      | ret => exact absurd g1 (hK' _ _ _ (by simp) _)
     rw [hK] at g1
     simp only [Option.some.injEq, Sum.inl.injEq] at g1
     subst g1
     obtain ⟨x, e2, J2, q1, q2, q3⟩ := ih e1 J1 t h2
     refine ⟨x, e2, J2, q1, q2, fun ρ0 fp0 a0 w0 he0 ρ fp a w he hle hkeep hrel Q hQ => ?_⟩
     rw [roundsIn_succ]
     refine g2 ρ0 fp0 a0 w0 he0 ρ fp a w he hle hkeep hrel _ fun a' w' ρ' fp' l1 l2 l3 l4 => ?_
     refine q3 ρ0 fp0 a0 w0 he0 ρ' fp' a' w' l1 (hle.trans l4.le) l3 l4.rel Q fun a'' w'' ρ'' fp'' m1 m2 m3 m4 => ?_
     exact hQ a'' w'' ρ'' fp'' m1 (fun B0 hm => m2 B0 (l2 B0 hm)) m3 (l4.trans (m4.mono fun b hb => Nat.lt_of_lt_of_le hb l4.next))
    ·obtain ⟨x, e1, J1, g1, g2⟩ := hstep _ hs
     have hx : x ≠ .norm := fun e => by rw [e, hK] at g1; simp at g1
     refine ⟨x, e1, J1, hx, g1, fun ρ0 fp0 a0 w0 he0 ρ fp a w he hle hkeep hrel Q hQ => ?_⟩
     rw [roundsIn_succ]
     refine g2 ρ0 fp0 a0 w0 he0 ρ fp a w he hle hkeep hrel _ fun a' w' ρ' fp' l1 l2 l3 l4 => ?_
     have := hQ a' w' ρ' fp' l1 l2 l3 l4
     cases x <;> first | exact absurd rfl hx | exact this
  simp only [exec] at h
  split at h
  ·rename_i xid slots out l
   obtain ⟨r0, hr0, h⟩ := Option.bind_eq_some_iff.1 h
   obtain ⟨m, hm'⟩ := loopF_spec hr0
   obtain ⟨x, e1, J1, hx, q1, q2⟩ := key slots l hs _ (fun _ _ => rfl) (fun x e1 J1 hx s hh => by
    cases x with
    | norm => exact hx rfl
    | ret => cases hh
    | exit i => simp only at hh; cases hb : Nat.beq i xid <;> rw [hb] at hh <;> simp at hh) m e J r0 hm'
   cases x with
   | norm => exact absurd rfl hx
   | ret => cases q1
   | exit id =>
    simp only at q1
    obtain ⟨hid, q3⟩ := bif_some q1
    have hid := Nat.eq_of_beq_eq_true hid
    subst hid
    simp only [Option.some.injEq, Sum.inr.injEq] at q3
    subst q3
    obtain ⟨e2, k1, k2⟩ := join_env h
    refine ⟨.exit id, e2, J1, k1, fun ρ fp a w he hrel Q hQ => wpIn_loop_rounds m ?_⟩
    exact q2 ρ fp a w he ρ fp a w he (Inj.le_refl _) (fun _ _ => rfl) hrel Q fun a' w' ρ' fp' l1 l2 l3 l4 => hQ a' w' ρ' fp' (he.join l4.le l1 l3 k2) l2 l3 l4
  ·rename_i xid slots out l
   have hno : ∀ (x : X) (e1 : Env) (J1 : AH O), x ≠ .norm -> ∀ s, (match x with
      | .norm => some (Sum.inl (packE slots e1, J1))
      | .exit id => bif Nat.beq id xid then some (Sum.inr (Sum.inl (packE out e1, J1))) else (K (.exit id) e1 J1).map fun r => Sum.inr (Sum.inr r)
      | .ret => (K .ret e1 J1).map fun r => Sum.inr (Sum.inr r) : Option ((List AV × AH O) ⊕ ((List AV × AH O) ⊕ R))) ≠ some (Sum.inl s) := fun x e1 J1 hx s hh => by
    cases x with
    | norm => exact hx rfl
    | ret => simp at hh
    | exit i => simp only at hh; cases hb : Nat.beq i xid <;> rw [hb] at hh <;> simp at hh
   rcases bindS_spec h with ⟨r0, hr0, h⟩ | hr0
   ·obtain ⟨m, hm'⟩ := loopF_spec hr0
    obtain ⟨x, e1, J1, hx, q1, q2⟩ := key slots l hs _ (fun _ _ => rfl) hno m e J (Sum.inl r0) hm'
    cases x with
    | norm => exact absurd rfl hx
    | ret => simp at q1
    | exit id =>
     simp only at q1
     cases hid : Nat.beq id xid with
     | false => rw [hid] at q1; simp at q1
     | true =>
      rw [hid] at q1
      have hid := Nat.eq_of_beq_eq_true hid
      subst hid
      simp only [cond_true, Option.some.injEq, Sum.inr.injEq, Sum.inl.injEq] at q1
      subst q1
      obtain ⟨e2, k1, k2⟩ := join_env h
      refine ⟨.exit id, e2, J1, k1, fun ρ fp a w he hrel Q hQ => wpIn_loop_rounds m ?_⟩
      exact q2 ρ fp a w he ρ fp a w he (Inj.le_refl _) (fun _ _ => rfl) hrel Q fun a' w' ρ' fp' l1 l2 l3 l4 => hQ a' w' ρ' fp' (he.join l4.le l1 l3 k2) l2 l3 l4
   ·obtain ⟨m, hm'⟩ := loopF_spec hr0
    obtain ⟨x, e1, J1, hx, q1, q2⟩ := key slots l hs _ (fun _ _ => rfl) hno m e J (Sum.inr r) hm'
    have fin : K x e1 J1 = some r -> ∃ x e' J', K x e' J' = some r /\ CodeOK RO P n ro (.loop c) J e x e' J' := fun hk =>
     ⟨x, e1, J1, hk, fun ρ fp a w he hrel Q hQ => wpIn_loop_rounds m (q2 ρ fp a w he ρ fp a w he (Inj.le_refl _) (fun _ _ => rfl) hrel Q fun a' w' ρ' fp' l1 l2 l3 l4 => hQ a' w' ρ' fp' l1 l2 l3 l4)⟩
    cases x with
    | norm => exact absurd rfl hx
    | exit id =>
     simp only at q1
     cases hid : Nat.beq id xid with
     | true => rw [hid] at q1; simp at q1
     | false =>
      rw [hid] at q1
      simp only [cond_false, Option.map_eq_some_iff, Sum.inr.injEq] at q1
      obtain ⟨r1, q1, e⟩ := q1
      subst e
      exact fin q1
    | ret =>
     simp only [Option.map_eq_some_iff, Sum.inr.injEq] at q1
     obtain ⟨r1, q1, e⟩ := q1
     subst e
     exact fin q1
  ·cases h
 | .scope c, hd, hp, an, hs, R, e, J, K, r, h => by
  simp only [exec] at h
  obtain ⟨x, e1, J1, g1, g2⟩ := exec_sound hG hm c hd hp an.l hs e J K r h
  refine ⟨x, e1, J1, g1, fun ρ fp a w he hrel Q hQ => wpIn_scope_straight (g2 ρ fp a w he hrel _ fun a' w' ρ' fp' k1 k2 k3 k4 => ?_)⟩
  have := hQ a' w' ρ' fp' k1 k2 k3 k4
  cases x <;> exact this
 | .rangeFunc g ps asg body, hd, hp, an, hs, R, e, J, K, r, h => by
  have hro : ro = none := hp.resolve_right (by simp [plain])
  subst hro
  simp only [exec] at h
  split at h
  ·rename_i site slots outs
   split at h
   ·rename_i f hev
    obtain ⟨⟨v1, J1⟩, hc, h'⟩ := Option.bind_eq_some_iff.1 h
    clear h
    obtain ⟨c, fi, ca, rfl⟩ : ∃ c fi ca, f = some (.func c, fi, ca) := by
     unfold rangeV at hc
     split at hc
     ·rename_i c fi ca; exact ⟨c, fi, ca, rfl⟩
     ·cases hc
    replace hc : getG G (c + rKey) (fi ++ [.fn (some (.yield J.next, [], []))] ++ ca) ((J.bump 1).put J.next (.loop site (slots.map fun t => (t, e t)) .ready)) = some (v1, J1) := hc
    obtain ⟨s, hl, h⟩ := Option.bind_eq_some_iff.1 h'
    simp only at hl h
    have hsite : siteOf P site = some (ps, asg, body) := hs (site, (ps, asg, body)) (by simp [annSites])
    obtain ⟨x, hk, hx⟩ : ∃ x, K x e (J1.kill J.next) = some r /\ ((x = .norm /\ s = 0) ∨ (x = xOf s /\ 3 <= s)) := by
     cases h0 : Nat.beq s 0 with
     | true => rw [h0] at h; exact ⟨.norm, h, .inl ⟨rfl, Nat.eq_of_beq_eq_true h0⟩⟩
     | false => rw [h0] at h; obtain ⟨h1, h2⟩ := outsK_spec h; exact ⟨xOf s, h2, .inr ⟨rfl, h1⟩⟩
    obtain ⟨c', hc', hent, hsnd⟩ : ∃ c', c + rKey = c' + rKey /\ Entered P c' /\ FSound RO P c' (getG G (c + rKey)) := by
     rcases getG_sound hG hc with ⟨h0, _⟩ | ⟨h0, _⟩ | ⟨h0, _⟩ | h
     ·simp only [yKey, rKey] at h0; omega
     ·simp only [yKey, rKey] at h0; omega
     ·simp only [yKey, rKey] at h0; omega
     ·exact h
    obtain rfl : c = c' := Nat.add_right_cancel hc'
    refine ⟨x, e, J1.kill J.next, hk, fun ρ fp a w he hrel Q hQ => ?_⟩
    refine wpIn_rangeFunc fun fn _ => ?_
    have hg := he.ev g
    rw [hev] at hg
    obtain ⟨fi', ca', uf, hfi, hca⟩ := hg.fn_inv
    have hw1 : Post RO P (· < J.next) ρ fp J w ρ fp J (w.alloc (.deferred (some []))) := Post.more hrel (fun B hB => heap_alloc_old w _ B hB) (by simp) rfl rfl rfl
    have hsz1 : (w.alloc (.deferred (some []))).heap.size = w.heap.size + 1 := by simp
    let r0 : Loop := { state := .ready, pending := none, fn := fn, tmps := a.tmps, params := ps, assign := asg, body := body, defers := w.heap.size }
    obtain ⟨ρ1, fp1, hρ1, hp1⟩ := Post.allocG (J := J.bump 1) (nid := J.next) (hw1.rel.bump 1) (Nat.lt_succ_self _) (hrel.next _ (Nat.le_refl _)).1 (.loop r0) (.loop site (slots.map fun t => (t, e t)) .ready) ⟨(w.alloc (.deferred (some []))).heap.size, 0, 0, 0⟩ (fun ρ' hle w' =>
     ⟨r0, (ps, asg, body), rfl, hsite, rfl, rfl, rfl, ⟨rfl, rfl⟩, fun t ht => by rw [show r0.tmps.size = n from he.size]; exact dstsOK_spec hd t ht, fun t v hm => by
      simp only [List.mem_map, Prod.mk.injEq] at hm
      obtain ⟨t', _, rfl, rfl⟩ := hm
      exact (he.get t').mono hle⟩)
    have hargs : VRels ρ1 (fi ++ [.fn (some (.yield J.next, [], []))] ++ ca) (fi'.toArray ++ #[Value.func (.yield (w.alloc (.deferred (some []))).heap.size) #[] #[]] ++ ca'.toArray).toList := by
     simp only [Array.toList_append]
     exact ((hfi.mono hp1.le).append (.cons _ _ _ _ (.yl _ _ (.n _ _ hρ1)) .nil)).append (hca.mono hp1.le)
    have hcall := hsnd _ _ _ _ hc ρ1 fp1 _ (fi'.toArray ++ #[Value.func (.yield (w.alloc (.deferred (some []))).heap.size) #[] #[]] ++ ca'.toArray) hargs hp1.rel
    refine ⟨(w.alloc (.deferred (some []))).heap.size, [{ target := .collected w.heap.size, args := #[] }], (w.alloc (.deferred (some []))).alloc (.loop r0), { target := .fn (.func c) ca'.toArray, args := fi'.toArray ++ #[Value.func (.yield (w.alloc (.deferred (some []))).heap.size) #[] #[]] }, (w.alloc (.deferred (some []))).alloc (.loop r0), c, fi'.toArray ++ #[Value.func (.yield (w.alloc (.deferred (some []))).heap.size) #[] #[]] ++ ca'.toArray, (w.alloc (.deferred (some []))).alloc (.loop r0), ?_, ?_, fun _ _ => trivial, ?_, fun h => (Bool.false_ne_true h).elim, callsIn_fw.2 (hcall.mono ?_)⟩
    ·rw [hsz1]; exact run_enterLoop_outer fn a.tmps ps asg body
    ·have ec : a.eval (.const (Value.func (.yield (w.alloc (.deferred (some []))).heap.size) #[] #[])) = Value.func (.yield (w.alloc (.deferred (some []))).heap.size) #[] #[] := rfl
     simp [resolve, uf, Deferred.ofValue]
     rfl
    ·exact hent _ _
    rintro xx w3 ⟨ρ2, fp2, u, rfl, hu, hp2⟩
    obtain ⟨site', env', st, hblk, hst⟩ : ∃ site' env' st, J1.blk J.next = some (.loop site' env' st) /\ st.code = s := by
     unfold lstN at hl
     split at hl
     ·rename_i s' e' st' hb; exact ⟨s', e', st', hb, by simpa using hl⟩
     ·cases hl
    have hL2 := hp2.le.l _ _ hρ1
    obtain ⟨r3, x3, g1, g2, g3, g4, g5, g6, g7, g8⟩ := hp2.rel.blk _ _ _ hblk hL2
    have hheap : w3.heap[(w.alloc (.deferred (some []))).heap.size]? = some (.loop r3) := hp2.rel.has _ _ _ (by rw [g1]; exact one_self _ _)
    obtain ⟨fp3, hp3⟩ := Post.setG (S := (· < J.next)) hp2.rel hblk hL2 g1 (x1 := .loop site' env' .gone) (ob' := .loop { r3 with state := .exhausted }) (fun w' => ⟨{ r3 with state := .exhausted }, x3, rfl, g2, g3, g4, g5, trivial, g7, g8⟩)
    obtain ⟨fp4, hp4⟩ := Post.kill (S := (· < J.next)) hp3.rel J.next
    have ek : (J1.put J.next (.loop site' env' .gone)).kill J.next = J1.kill J.next := by
     simp only [AH.put, AH.kill, AH.mk.injEq, and_true]
     funext q
     cases Nat.beq q J.next <;> rfl
    rw [ek] at hp4
    have T1 : Post RO P (· < J.next) ρ fp J (w.alloc (.deferred (some []))) ρ2 fp4 (J1.kill J.next) (w3.putObj (w.alloc (.deferred (some []))).heap.size (.loop { r3 with state := .exhausted })) :=
     Post.of_bump ((hp1.mono fun b (hb : b < J.next) => by omega).trans ((hp2.mono fun b (hb : b < J.next) => Nat.lt_succ_of_lt hb).trans (hp3.trans hp4)))
    have T := hw1.trans T1
    have hE : EnvRel n ρ2 e ({ a with defers := [{ target := .collected w.heap.size, args := #[] }] ++ a.defers } : Act) := ⟨he.size, fun t => (he.get t).mono T.le⟩
    have hM : ∀ B0, Marks B0 fp w a.defers -> Marks B0 fp4 (w3.putObj (w.alloc (.deferred (some []))).heap.size (.loop { r3 with state := .exhausted })) ([{ target := .collected w.heap.size, args := #[] }] ++ a.defers) := fun B0 hm => by
     have m1 := hm.post hw1
     refine Marks.post (S := (· < J.next)) ⟨m1.sz, ?_, fun d hd' => ?_⟩ T1
     ·simp only [List.cons_append, List.nil_append, List.map_cons, List.nodup_cons]
      refine ⟨fun hmem => ?_, hm.nd⟩
      obtain ⟨d, hd1, hd2⟩ := List.mem_map.1 hmem
      obtain ⟨r, k1, _, k3, _⟩ := hm.it d hd1
      rw [k1] at hd2
      cases hd2
      have := (Array.getElem?_eq_some_iff.1 k3).1
      omega
     ·rcases List.mem_append.1 hd' with hd' | hd'
      ·simp only [List.mem_singleton] at hd'
       subst hd'
       refine ⟨w.heap.size, rfl, hm.sz, heap_alloc_new w _, fun b => ?_⟩
       cases hb : fp b w.heap.size with
       | none => rfl
       | some o => have := hrel.size (b := b) (B := w.heap.size) (by rw [hb]; simp); omega
      ·exact m1.it d hd'
    have done : ∀ {x : X} {Q' : Exit -> Act -> World -> Prop}, Q' = Q -> K x e (J1.kill J.next) = some r -> True := fun _ _ => trivial
    have hq := hQ _ _ ρ2 fp4 hE hM (fun _ _ => rfl) T
    cases st with
    | ready =>
     obtain ⟨k1, k2⟩ := g6
     refine ⟨none, _, by rw [<- k2]; exact run_endLoop hheap (by rw [k1]; simp), ?_⟩
     rcases hx with ⟨rfl, _⟩ | ⟨_, h3⟩
     ·exact hq
     ·simp only [LSt.code] at hst; omega
    | busy => rcases hx with ⟨_, h3⟩ | ⟨_, h3⟩ <;> simp only [LSt.code] at hst <;> omega
    | gone => rcases hx with ⟨_, h3⟩ | ⟨_, h3⟩ <;> simp only [LSt.code] at hst <;> omega
    | done j =>
     obtain ⟨k1, k2⟩ := g6
     refine ⟨some (jmpOf j), _, by rw [<- k2]; exact run_endLoop hheap (by rw [k1]; simp), ?_⟩
     cases j with
     | none =>
      simp only [LSt.code] at hst
      rcases hx with ⟨_, h3⟩ | ⟨rfl, _⟩
      ·omega
      ·subst hst
       exact wpIn_ret hq
     | some id =>
      simp only [LSt.code] at hst
      rcases hx with ⟨_, h3⟩ | ⟨rfl, _⟩
      ·omega
      ·subst hst
       have : xOf (id + 4) = .exit id := by unfold xOf; rw [if_neg (by omega)]; congr 1
       rw [this] at hq
       exact wpIn_exit hq
   ·cases h
  ·cases h
 | .goto _, _, _, an, _, R, e, J, K, r, h => by cases h
 | .refuse _, _, _, an, _, R, e, J, K, r, h => by cases h
end Go.Abs
