/-
  AbsOk: how proofs about what is run are written: a run goes well, and what then holds.
-/
import Derived.Test.YtlgnboohmahbaaaGreatAbsCore
set_option linter.unusedVariables false
set_option linter.unusedSimpArgs false
set_option linter.constructorNameAsVariable false
namespace Go.Abs
open Go
def Ok {A : Type} (m : Option A) (Q : A → Prop) : Prop := ∃ r, m = some r ∧ Q r
theorem Ok.mono {A : Type} {m : Option A} {Q Q' : A → Prop} (h : Ok m Q) (hq : ∀ r, Q r → Q' r) : Ok m Q' := by
 obtain ⟨r, h1, h2⟩ := h; exact ⟨r, h1, hq r h2⟩
theorem Ok.and {A : Type} {m : Option A} {Q Q' : A → Prop} (h : Ok m Q) (h' : Ok m Q') : Ok m fun r => Q r ∧ Q' r := by
 obtain ⟨r, h1, h2⟩ := h
 obtain ⟨r', h1', h2'⟩ := h'
 rw [h1] at h1'; cases h1'
 exact ⟨r, h1, h2, h2'⟩
@[simp] theorem Ok_some {A : Type} {r : A} {Q : A → Prop} : Ok (some r) Q ↔ Q r := ⟨fun ⟨_, h, hq⟩ => by cases h; exact hq, fun h => ⟨r, rfl, h⟩⟩
@[simp] theorem Ok_none {A : Type} {Q : A → Prop} : Ok (none : Option A) Q ↔ False := ⟨fun h => (by obtain ⟨_, h, _⟩ := h; cases h), False.elim⟩
@[simp] theorem Ok_bind {A B : Type} {m : Option A} {f : A → Option B} {Q : B → Prop} : Ok (m.bind f) Q ↔ Ok m fun a => Ok (f a) Q := by
 cases m with
 | none => simp
 | some a => simp
@[simp] theorem Ok_bif {A : Type} {c : Bool} {x y : Option A} {Q : A → Prop} : Ok (bif c then x else y) Q ↔ (if c = true then Ok x Q else Ok y Q) := by
 cases c <;> simp
theorem Ok.step {A B : Type} {m : Option A} {f : A → Option B} {Q : A → Prop} {Q' : B → Prop} (h : Ok m Q) (hq : ∀ r, Q r → Ok (f r) Q') : Ok (m.bind f) Q' := Ok_bind.2 (h.mono hq)
@[simp] theorem bindS_inl {S R : Type} {s : S} {f : S → Option R} : bindS (some (Sum.inl s)) f = f s := rfl
@[simp] theorem bindS_inr {S R : Type} {r : R} {f : S → Option R} : bindS (some (Sum.inr r)) f = some r := rfl
@[simp] theorem asI_i {k : IntKind} {n : Int} : AV.asI k (.i k n) = some n := by simp [AV.asI]
@[simp] theorem asB_b {x : Bool} : AV.asB (.b x) = some x := rfl
@[simp] theorem asS_s {x : List UInt8} : AV.asS (.s x) = some x := rfl
@[simp] theorem asP_p {x : Option (Bid × Nat)} : AV.asP (.p x) = some x := rfl
@[simp] theorem asPS_p {x : Option (Bid × Nat)} : AV.asPS (.p x) = x := rfl
@[simp] theorem asSl_sl {a : SA} {n : Nat} : AV.asSl (.sl a n) = some (a, n) := rfl
theorem Ok.bindS {S R : Type} {m : Option (S ⊕ R)} {f : S → Option R} {Q : S ⊕ R → Prop} {Q' : R → Prop} (h : Ok m Q) (h1 : ∀ s, Q (.inl s) → Ok (f s) Q') (h2 : ∀ r, Q (.inr r) → Q' r) : Ok (bindS m f) Q' := by
 obtain ⟨r, e, hq⟩ := h
 subst e
 cases r with
 | inl s => exact h1 s hq
 | inr r => exact ⟨r, rfl, h2 r hq⟩
section loop
variable {S T : Type} {f : S → Option (S ⊕ T)}
theorem loopN_mono : ∀ {n : Nat} {s : S} {t : T}, loopN f n s = some t → ∀ {m : Nat}, n ≤ m → loopN f m s = some t
 | 0, s, t, h, m, _ => by cases h
 | n + 1, s, t, h, m, hm => by
  cases m with
  | zero => omega
  | succ m =>
   simp only [loopN] at h ⊢
   cases hf : f s with
   | none => rw [hf] at h; cases h
   | some r =>
    rw [hf] at h
    cases r with
    | inl s' => exact loopN_mono (n := n) h (by omega)
    | inr t' => exact h
theorem loopN_det {n m : Nat} {s : S} {t t' : T} (h : loopN f n s = some t) (h' : loopN f m s = some t') : t = t' := by
 have h3 := loopN_mono h (Nat.le_max_left n m)
 rw [loopN_mono h' (Nat.le_max_right n m)] at h3
 exact (Option.some.inj h3).symm
theorem loopF_of {n : Nat} {s : S} {t : T} (h : loopN f n s = some t) : loopF f s = some t := by
 have hex : ∃ n t, loopN f n s = some t := ⟨n, t, h⟩
 unfold loopF
 split
 ·rename_i t' h'
  rw [loopN_det h h']
 ·rw [dif_pos hex, loopN_det h (Classical.choose_spec (Classical.choose_spec hex))]
theorem loopF_none {s : S} (h : ¬ ∃ n t, loopN f n s = some t) : loopF f s = none := by
 unfold loopF
 split
 ·rename_i t' h'
  exact absurd ⟨_, _, h'⟩ h
 ·rw [dif_neg h]
theorem loopF_inr {s : S} {t : T} (h : f s = some (.inr t)) : loopF f s = some t := loopF_of (n := 1) (by simp [loopN, h, bindS])
theorem loopF_inl {s s' : S} (h : f s = some (.inl s')) : loopF f s = loopF f s' := by
 by_cases hex : ∃ n t, loopN f n s' = some t
 ·obtain ⟨n, t, hn⟩ := hex
  rw [loopF_of hn]
  exact loopF_of (n := n + 1) (by simp [loopN, h, hn])
 ·have h1 : ¬ ∃ n t, loopN f n s = some t := by
   rintro ⟨n, t, hn⟩
   cases n with
   | zero => cases hn
   | succ n => simp only [loopN, h, bindS_inl] at hn; exact hex ⟨n, t, hn⟩
  rw [loopF_none hex, loopF_none h1]
theorem Ok.loop {Q : T → Prop} (I : Nat → S → Prop) (hstep : ∀ n s, I n s → Ok (f s) fun r => match r with | .inl s' => ∃ m, m < n ∧ I m s' | .inr t => Q t) : ∀ (n : Nat) (s : S), I n s → Ok (loopF f s) Q := by
 intro n
 induction n using Nat.strongRecOn with
 | _ n ih =>
  intro s hI
  obtain ⟨r, h1, h2⟩ := hstep n s hI
  cases r with
  | inl s' =>
   obtain ⟨m, hm, hI'⟩ := h2
   rw [loopF_inl h1]
   exact ih m hm s' hI'
  | inr t => rw [loopF_inr h1]; exact ⟨t, rfl, h2⟩
theorem Ok.count {Q : T → Prop} (N : Nat) (I : Nat → S → Prop) (hstep : ∀ k s, k < N → I k s → Ok (f s) fun r => match r with | .inl s' => I (k + 1) s' | .inr t => Q t)
  (hend : ∀ s, I N s → Ok (f s) fun r => match r with | .inl _ => False | .inr t => Q t) {s : S} (h0 : I 0 s) : Ok (loopF f s) Q := by
 refine Ok.loop (fun n s => n ≤ N ∧ I (N - n) s) (fun n s hI => ?_) N s ⟨Nat.le_refl _, by rw [Nat.sub_self]; exact h0⟩
 obtain ⟨hn, hI⟩ := hI
 cases n with
 | zero =>
  refine (hend s (by simpa using hI)).mono fun r hr => ?_
  cases r with
  | inl s' => exact hr.elim
  | inr t => exact hr
 | succ n =>
  refine (hstep _ s (by omega) hI).mono fun r hr => ?_
  cases r with
  | inl s' => exact ⟨n, by omega, by omega, by rw [show N - n = N - (n + 1) + 1 by omega]; exact hr⟩
  | inr t => exact hr
end loop
section heap
variable {O : Type}
@[simp] theorem put_blk {σ : AH O} {b q : Nat} {x : Blk O} : (σ.put b x).blk q = if q = b then some x else σ.blk q := by
 simp only [AH.put]; by_cases h : q = b
 ·subst h; simp
 ·have : Nat.beq q b = false := by cases hh : Nat.beq q b with | false => rfl | true => exact absurd (Nat.eq_of_beq_eq_true hh) h
  simp [this, h]
@[simp] theorem kill_blk {σ : AH O} {b q : Nat} : (σ.kill b).blk q = if q = b then none else σ.blk q := by
 simp only [AH.kill]; by_cases h : q = b
 ·subst h; simp
 ·have : Nat.beq q b = false := by cases hh : Nat.beq q b with | false => rfl | true => exact absurd (Nat.eq_of_beq_eq_true hh) h
  simp [this, h]
@[simp] theorem bump_blk {σ : AH O} {k q : Nat} : (σ.bump k).blk q = σ.blk q := rfl
@[simp] theorem put_next {σ : AH O} {b : Nat} {x : Blk O} : (σ.put b x).next = σ.next := rfl
@[simp] theorem kill_next {σ : AH O} {b : Nat} : (σ.kill b).next = σ.next := rfl
@[simp] theorem bump_next {σ : AH O} {k : Nat} : (σ.bump k).next = σ.next + k := rfl
structure Ext (σ σ' : AH O) : Prop where
 next : σ.next ≤ σ'.next
 blk : ∀ b, b < σ.next → σ'.blk b = σ.blk b
theorem Ext.refl (σ : AH O) : Ext σ σ := ⟨Nat.le_refl _, fun _ _ => rfl⟩
theorem Ext.trans {σ σ' σ'' : AH O} (h : Ext σ σ') (h' : Ext σ' σ'') : Ext σ σ'' :=
 ⟨Nat.le_trans h.next h'.next, fun b hb => (h'.blk b (Nat.lt_of_lt_of_le hb h.next)).trans (h.blk b hb)⟩
theorem Ext.bump {σ σ' : AH O} (h : Ext σ σ') (k : Nat) : Ext σ (σ'.bump k) := ⟨by simp; have := h.next; omega, fun b hb => h.blk b hb⟩
theorem Ext.put {σ σ' : AH O} (h : Ext σ σ') {b : Nat} (hb : σ.next ≤ b) (x : Blk O) : Ext σ (σ'.put b x) :=
 ⟨h.next, fun c hc => by rw [put_blk, if_neg (by omega)]; exact h.blk c hc⟩
theorem Ext.kill {σ σ' : AH O} (h : Ext σ σ') {b : Nat} (hb : σ.next ≤ b) : Ext σ (σ'.kill b) :=
 ⟨h.next, fun c hc => by rw [kill_blk, if_neg (by omega)]; exact h.blk c hc⟩
end heap
end Go.Abs
