/-
  AbsFrz: what a function gives back is never written again: it is then its own name (a value without blocks).
-/
import Derived.Test.YtgmffmgbaelohaaAbsRun
set_option linter.unusedVariables false
set_option linter.unusedSimpArgs false
set_option linter.constructorNameAsVariable false
namespace Go.Abs
open Go
variable {O : Type} {RO : O → Loc → (Nat → Option Obj) → Prop} {P : Program}

def frzL (F : AH O → AV → Option (AV × AH O)) : List AV → AH O → Option (List AV × AH O)
  | [], σ => some ([], σ)
  | v :: vs, σ => (F σ v).bind fun r => (frzL F vs r.2).bind fun q => some (r.1 :: q.1, q.2)
def frzV : Nat → AH O → AV → Option (AV × AH O)
  | 0, _, _ => none
  | d + 1, σ, v =>
    match v with
    | .sl (.loc (.n b) o es) n =>
      match σ.blk b with
      | some (.cells true _ cs) => bif Nat.ble (o + n * es) cs.length then (frzL (frzV d) ((cs.drop o).take (n * es)) (σ.kill b)).bind fun r => some (.sl (.loc (.f r.1) 0 es) n, r.2) else none
      | _ => none
    | .p (some (.n b, o)) =>
      match σ.blk b with
      | some (.cells true _ cs) => (frzL (frzV d) cs (σ.kill b)).bind fun r => some (.p (some (.f r.1, o)), r.2)
      | _ => none
    | .agg cs => (frzL (frzV d) cs σ).bind fun r => some (.agg r.1, r.2)
    | .tup cs => (frzL (frzV d) cs σ).bind fun r => some (.tup r.1, r.2)
    | v => some (v, σ)
/-- the function, what it gives back being never written again -/
def frz (s : Sm O) : Sm O := fun xs σ => (s xs σ).bind fun r => frzV 8 r.2 r.1

def FrzOK (RO : O → Loc → (Nat → Option Obj) → Prop) (P : Program) (F : AH O → AV → Option (AV × AH O)) : Prop :=
  ∀ σ v v' σ', F σ v = some (v', σ') → ∀ ρ fp w u (S : Nat → Prop), VRel ρ v u → Rel RO P ρ fp σ w → ∃ ρ' fp', VRel ρ' v' u ∧ (v.isOne = true → v'.isOne = true) ∧ Post RO P S ρ fp σ w ρ' fp' σ' w

theorem frzL_sound {F : AH O → AV → Option (AV × AH O)} (hF : FrzOK RO P F) : ∀ (vs : List AV) (σ : AH O) (vs' : List AV) (σ' : AH O), frzL F vs σ = some (vs', σ') → ∀ ρ fp w us (S : Nat → Prop), VRels ρ vs us → Rel RO P ρ fp σ w →
    ∃ ρ' fp', VRels ρ' vs' us ∧ (vs.all AV.isOne = true → vs'.all AV.isOne = true) ∧ Post RO P S ρ fp σ w ρ' fp' σ' w
  | [], σ, vs', σ', h, ρ, fp, w, us, S, hv, hr => by
    cases h
    exact ⟨ρ, fp, hv, fun h => h, Post.refl hr⟩
  | v :: vs, σ, vs', σ', h, ρ, fp, w, us, S, hv, hr => by
    simp only [frzL] at h
    obtain ⟨⟨v1, σ1⟩, h1, h⟩ := Option.bind_eq_some_iff.1 h
    obtain ⟨⟨vs2, σ2⟩, h2, h⟩ := Option.bind_eq_some_iff.1 h
    cases h
    cases hv with
    | cons _ u _ us g1 g2 =>
      obtain ⟨ρ1, fp1, a1, a2, a3⟩ := hF _ _ _ _ h1 ρ fp w u S g1 hr
      obtain ⟨ρ2, fp2, b1, b2, b3⟩ := frzL_sound hF vs _ _ _ h2 ρ1 fp1 w us S (g2.mono a3.le) a3.rel
      exact ⟨ρ2, fp2, .cons _ _ _ _ (a1.mono b3.le) b1, fun hh => by simp only [List.all_cons, Bool.and_eq_true] at hh ⊢; exact ⟨a2 hh.1, b2 hh.2⟩, a3.trans b3⟩

theorem frzV_sound : ∀ d : Nat, FrzOK RO P (frzV (O := O) d)
  | 0 => fun σ v v' σ' h => by cases h
  | d + 1 => fun σ v v' σ' h ρ fp w u S hv hr => by
    have same : some (v, σ) = some (v', σ') → ∃ ρ' fp', VRel ρ' v' u ∧ (v.isOne = true → v'.isOne = true) ∧ Post RO P S ρ fp σ w ρ' fp' σ' w := fun e => by
      cases e; exact ⟨ρ, fp, hv, fun h => h, Post.refl hr⟩
    unfold frzV at h
    split at h
    · rename_i b o es n
      split at h
      · rename_i el cs hb
        have hle := (bif_some h).1
        obtain ⟨⟨cs', σ2⟩, h1, h2⟩ := Option.bind_eq_some_iff.1 (bif_some h).2
        clear h same
        cases h2
        cases hv with
        | sl0 _ _ _ A =>
          obtain ⟨fp1, k1⟩ := Post.kill (S := S) hr b
          rw [Nat.zero_mul, List.take_zero] at h1
          cases h1
          exact ⟨ρ, fp1, .sl0 _ _ _ A, fun _ => rfl, k1⟩
        | sl _ _ _ cap L hL q1 q2 q3 =>
          obtain ⟨ρ1, fp1, k1, us, k2, k3, k4⟩ := Post.freeze (S := S) hr hb hL.n_inv
          obtain ⟨ρ2, fp2, m1, m2, m3⟩ := frzL_sound (frzV_sound d) _ _ _ _ h1 ρ1 fp1 w ((us.drop o).take (n * L.es)) S ((k2.drop o).take _) k1.rel
          refine ⟨ρ2, fp2, ?_, fun _ => rfl, k1.trans m3⟩
          have hs : Sits ρ2 (.f cs') ⟨L.B, L.O + o, L.size - o, L.es⟩ := .f cs' _ _ m1 (m2 (List.all_eq_true.2 fun x hx => List.all_eq_true.1 k3 x (List.mem_of_mem_drop (List.mem_of_mem_take hx)))) fun i u hu => m3.le.f _ _ _ (by
            rw [List.getElem?_take] at hu
            split at hu
            · rw [List.getElem?_drop] at hu
              have := k4 _ _ hu
              rw [show L.O + o + i = L.O + (o + i) by omega]; exact this
            · cases hu)
          have := VRel.sl (.f cs') 0 n cap _ hs q1 q2 (by simp only; omega)
          simpa using this
      · cases h
    · rename_i b o
      split at h
      · rename_i el cs hb
        obtain ⟨⟨cs', σ2⟩, h1, h2⟩ := Option.bind_eq_some_iff.1 h
        clear h same
        cases h2
        cases hv with
        | p _ _ L hL =>
          obtain ⟨ρ1, fp1, k1, us, k2, k3, k4⟩ := Post.freeze (S := S) hr hb hL.n_inv
          obtain ⟨ρ2, fp2, m1, m2, m3⟩ := frzL_sound (frzV_sound d) _ _ _ _ h1 ρ1 fp1 w us S k2 k1.rel
          exact ⟨ρ2, fp2, .p _ _ L (.f cs' _ _ m1 (m2 k3) fun i u hu => m3.le.f _ _ _ (k4 i u hu)), fun _ => rfl, k1.trans m3⟩
      · cases h
    · rename_i cs
      obtain ⟨⟨cs', σ2⟩, h1, h2⟩ := Option.bind_eq_some_iff.1 h
      clear same
      cases h2
      obtain ⟨vs, rfl, g1, g2⟩ := hv.agg_inv
      obtain ⟨ρ2, fp2, m1, m2, m3⟩ := frzL_sound (frzV_sound d) _ _ _ _ h1 ρ fp w vs S g1 hr
      exact ⟨ρ2, fp2, .agg _ _ m1 (m2 g2), fun h => h, m3⟩
    · rename_i cs
      obtain ⟨⟨cs', σ2⟩, h1, h2⟩ := Option.bind_eq_some_iff.1 h
      clear same
      cases h2
      obtain ⟨vs, rfl, g1⟩ := hv.tup_inv
      obtain ⟨ρ2, fp2, m1, m2, m3⟩ := frzL_sound (frzV_sound d) _ _ _ _ h1 ρ fp w vs S g1 hr
      exact ⟨ρ2, fp2, .tup _ _ m1, fun h => h, m3⟩
    · exact same h

theorem FSound.frz {f : FuncId} {s : Sm O} (h : FSound RO P f s) : FSound RO P f (Abs.frz s) := by
  intro xs σ v σ' hs ρ fp w args hx hr
  obtain ⟨⟨v1, σ1⟩, h1, h2⟩ := Option.bind_eq_some_iff.1 hs
  refine (h xs σ v1 σ1 h1 ρ fp w args hx hr).mono ?_
  rintro x w' ⟨ρ', fp', u, rfl, hu, hp⟩
  obtain ⟨ρ2, fp2, m1, _, m3⟩ := frzV_sound 8 _ _ _ _ h2 ρ' fp' w' u (· < σ.next) hu hp.rel
  exact ⟨ρ2, fp2, u, rfl, m1, hp.trans m3⟩

/-! ### Arguments that are never written again -/
/-- no block's name in it -/
def AV.flt : AV → Bool
  | .sl (.loc (.n _) _ _) _ => false
  | .agg cs => flts cs
  | .tup cs => flts cs
  | _ => true
where flts : List AV → Bool
  | [] => true
  | v :: vs => v.flt && flts vs
def frzA : Nat → AH O → AV → Option (AV × AH O)
  | 0, _, _ => none
  | d + 1, σ, v =>
    bif v.flt then some (v, σ) else
    match v with
    | .sl (.loc (.n b) o es) n =>
      bif Nat.beq n 0 then some (.sl (.loc (.f []) 0 es) 0, σ) else
      match σ.blk b with
      | some (.cells true el cs) => bif Nat.ble (o + n * es) cs.length then (frzL (frzA d) cs (σ.kill b)).bind fun r => some (.sl (.loc (.f ((r.1.drop o).take (n * es))) 0 es) n, r.2.put b (.cells false el r.1)) else none
      | some (.cells false _ cs) => bif Nat.ble (o + n * es) cs.length then some (.sl (.loc (.f ((cs.drop o).take (n * es))) 0 es) n, σ) else none
      | _ => none
    | .agg cs => (frzL (frzA d) cs σ).bind fun r => some (.agg r.1, r.2)
    | .tup cs => (frzL (frzA d) cs σ).bind fun r => some (.tup r.1, r.2)
    | _ => none
/-- the function, its arguments being never written again -/
def fza (s : Sm O) : Sm O := fun xs σ => (frzL (frzA 8) xs σ).bind fun r => s r.1 r.2

theorem Rel.seal {ρ : Inj} {fp : Fp} {σ : AH O} {w : World} (h : Rel RO P ρ fp σ w) {b : Nat} (h0 : σ.blk b = none) (hb : b < σ.next) {L : Loc} (hL : ρ b = some L) (el : TypeId) {cs : List AV}
    (hc : ∀ i v, cs[i]? = some v → v.isOne = true ∧ ∃ u, ρ.fz L.B (L.O + i) = some u ∧ VRel ρ v u) : Rel RO P ρ fp (σ.put b (.cells false el cs)) w where
  next := fun q hq => by
    obtain ⟨x, y⟩ := h.next q hq
    refine ⟨x, ?_⟩
    rw [AH.put_blk, if_neg (by have : σ.next ≤ q := hq; omega)]; exact y
  blk := fun q x L' hx hL' => by
    rw [AH.put_blk] at hx
    split at hx
    · next e =>
      subst e
      cases hx
      rw [hL] at hL'; cases hL'
      exact ⟨h.dead q (.inl h0), hc⟩
    · exact h.blk q x L' hx hL'
  dead := fun q hq => by
    by_cases e : q = b
    · subst e; exact h.dead q (.inl h0)
    · rw [AH.put_blk, if_neg e] at hq; exact h.dead q hq
  has := h.has
  disj := h.disj
  fz := h.fz

theorem fzcells {ρ : Inj} {B : Nat} : ∀ {cs : List AV} {o : Nat}, (∀ i v, cs[i]? = some v → v.isOne = true ∧ ∃ u, ρ.fz B (o + i) = some u ∧ VRel ρ v u) → ∃ us, VRels ρ cs us ∧ cs.all AV.isOne = true ∧ ∀ i u, us[i]? = some u → ρ.fz B (o + i) = some u
  | [], o, _ => ⟨[], .nil, rfl, fun i u h => by cases i <;> cases h⟩
  | c :: cs, o, h => by
    obtain ⟨a, u, b, d⟩ := h 0 c rfl
    obtain ⟨us, m1, m2, m3⟩ := fzcells (cs := cs) (o := o + 1) fun i v hv => by
      have := h (i + 1) v hv
      rw [show o + 1 + i = o + (i + 1) by omega]; exact this
    refine ⟨u :: us, .cons _ _ _ _ d m1, by simp [a, m2], fun i x hx => ?_⟩
    cases i with
    | zero => cases hx; exact b
    | succ i => have := m3 i x hx; rw [show o + (i + 1) = o + 1 + i by omega]; exact this
theorem frzA_sound : ∀ d : Nat, FrzOK RO P (frzA (O := O) d)
  | 0 => fun σ v v' σ' h => by cases h
  | d + 1 => fun σ v v' σ' h ρ fp w u S hv hr => by
    unfold frzA at h
    cases hf : v.flt with
    | true => rw [hf] at h; cases h; exact ⟨ρ, fp, hv, fun h => h, Post.refl hr⟩
    | false =>
    rw [hf] at h
    simp only [cond_false] at h
    clear hf
    split at h
    · rename_i b o es n
      have zero : ∀ {x : Value}, n = 0 → VRel ρ (.sl (.loc (.n b) o es) n) x → VRel ρ (.sl (.loc (.f []) 0 es) 0) x := fun hn hv => by
        subst hn
        cases hv with
        | sl0 _ _ _ A => exact .sl0 _ _ _ A
        | sl _ _ _ cap L hL q1 q2 q3 =>
          have := VRel.sl (ρ := ρ) (.f []) 0 0 cap ⟨L.B, L.O + o, L.size - o, L.es⟩ (.f [] [] _ .nil rfl (by simp)) q1 q2 (by simp only; omega)
          simpa using this
      cases hz : Nat.beq n 0 with
      | true =>
        rw [hz] at h
        simp only [cond_true] at h
        cases h
        exact ⟨ρ, fp, zero (Nat.eq_of_beq_eq_true hz) hv, fun _ => rfl, Post.refl hr⟩
      | false =>
      rw [hz] at h
      simp only [cond_false] at h
      have hn0 : n ≠ 0 := fun e => by subst e; cases hz
      obtain ⟨L, cap, hL, hes, hu, q1, q2, q3⟩ : ∃ (L : Loc) (cap : Nat), ρ b = some L ∧ es = L.es ∧ u = .slice (some ⟨L.B, L.O + o, none⟩) n cap ∧ n ≤ cap ∧ cap ≤ maxLen ∧ o + cap * L.es ≤ L.size := by
        cases hv with
        | sl0 => exact absurd rfl hn0
        | sl _ _ _ cap L hL q1 q2 q3 => exact ⟨L, cap, hL.n_inv, rfl, rfl, q1, q2, q3⟩
      subst hes hu
      have out : ∀ {ρ2 : Inj} {cs' : List AV} {us : List Value}, VRels ρ2 cs' us → cs'.all AV.isOne = true → (∀ i u, us[i]? = some u → ρ2.fz L.B (L.O + i) = some u) → VRel ρ2 (.sl (.loc (.f ((cs'.drop o).take (n * L.es))) 0 L.es) n) (.slice (some ⟨L.B, L.O + o, none⟩) n cap) := fun {ρ2 cs' us} m1 m2 k4 => by
        have hs : Sits ρ2 (.f ((cs'.drop o).take (n * L.es))) ⟨L.B, L.O + o, L.size - o, L.es⟩ := .f _ _ _ ((m1.drop o).take _) (List.all_eq_true.2 fun x hx => List.all_eq_true.1 m2 x (List.mem_of_mem_drop (List.mem_of_mem_take hx))) fun i u hu => by
          rw [List.getElem?_take] at hu
          split at hu
          · rw [List.getElem?_drop] at hu
            have := k4 _ _ hu
            rw [show L.O + o + i = L.O + (o + i) by omega]; exact this
          · cases hu
        have := VRel.sl (.f ((cs'.drop o).take (n * L.es))) 0 n cap _ hs q1 q2 (by simp only; omega)
        simpa using this
      split at h
      · rename_i el cs hb
        obtain ⟨⟨cs', σ2⟩, h1, h2⟩ := Option.bind_eq_some_iff.1 (bif_some h).2
        clear h
        cases h2
        have hlt : b < σ.next := Nat.lt_of_not_le fun hh => by rw [(hr.next b hh).2] at hb; cases hb
        obtain ⟨ρ1, fp1, k1, us, k2, k3, k4⟩ := Post.freeze (S := fun _ => True) hr hb hL
        obtain ⟨ρ2, fp2, m1, m2, m3⟩ := frzL_sound (frzA_sound d) _ _ _ _ h1 ρ1 fp1 w us (fun _ => True) k2 k1.rel
        have t := k1.trans m3
        have h0 : σ2.blk b = none := m3.blank b trivial hlt (by simp)
        have k5 : ∀ i u, us[i]? = some u → ρ2.fz L.B (L.O + i) = some u := fun i u hu => m3.le.f _ _ _ (k4 i u hu)
        refine ⟨ρ2, fp2, out m1 (m2 k3) k5, fun _ => rfl, ⟨t.rel.seal h0 (Nat.lt_of_lt_of_le hlt t.next) (t.le.l _ _ hL) el fun i v hv => ?_, t.fr, t.grow, t.gro, t.le, fun q _ => t.ext q trivial, fun q _ hq hq0 => ?_, t.next⟩⟩
        · obtain ⟨u, hu, hx⟩ := m1.get hv
          exact ⟨List.all_eq_true.1 (m2 k3) v (List.mem_of_getElem? hv), u, k5 i u hu, hx⟩
        · rw [AH.put_blk, if_neg (fun e => by subst e; rw [hb] at hq0; cases hq0)]
          exact t.blank q trivial hq hq0
      · rename_i el cs hb
        have h2 := (bif_some h).2
        cases h2
        obtain ⟨_, hc⟩ := hr.blk b _ L hb hL
        obtain ⟨us, m1, m2, m3⟩ := fzcells hc
        exact ⟨ρ, fp, out m1 m2 m3, fun _ => rfl, Post.refl hr⟩
      · cases h
    · rename_i cs
      obtain ⟨⟨cs', σ2⟩, h1, h2⟩ := Option.bind_eq_some_iff.1 h
      cases h2
      obtain ⟨vs, rfl, g1, g2⟩ := hv.agg_inv
      obtain ⟨ρ2, fp2, m1, m2, m3⟩ := frzL_sound (frzA_sound d) _ _ _ _ h1 ρ fp w vs S g1 hr
      exact ⟨ρ2, fp2, .agg _ _ m1 (m2 g2), fun h => h, m3⟩
    · rename_i cs
      obtain ⟨⟨cs', σ2⟩, h1, h2⟩ := Option.bind_eq_some_iff.1 h
      cases h2
      obtain ⟨vs, rfl, g1⟩ := hv.tup_inv
      obtain ⟨ρ2, fp2, m1, m2, m3⟩ := frzL_sound (frzA_sound d) _ _ _ _ h1 ρ fp w vs S g1 hr
      exact ⟨ρ2, fp2, .tup _ _ m1, fun h => h, m3⟩
    · cases h

theorem FSound.fza {f : FuncId} {s : Sm O} (h : FSound RO P f s) : FSound RO P f (Abs.fza s) := by
  intro xs σ v σ' hs ρ fp w args hx hr
  obtain ⟨⟨ys, σ1⟩, h1, h2⟩ := Option.bind_eq_some_iff.1 hs
  obtain ⟨ρ1, fp1, m1, _, m3⟩ := frzL_sound (frzA_sound 8) _ _ _ _ h1 ρ fp w args.toList (· < σ.next) hx hr
  refine (h ys σ1 v σ' h2 ρ1 fp1 w args m1 m3.rel).mono ?_
  rintro x w' ⟨ρ', fp', u, rfl, hu, hp⟩
  exact ⟨ρ', fp', u, rfl, hu, m3.trans (hp.mono fun b hb => Nat.lt_of_lt_of_le hb m3.next)⟩
end Go.Abs
