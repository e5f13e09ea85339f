/-
  AbsDraw4: one operation of a drawn region, in any order.
-/
import Derived.Test.YtlgnboohmahbaaaGreatAbsDraw3
set_option linter.unusedVariables false
set_option linter.unusedSimpArgs false
set_option linter.constructorNameAsVariable false
namespace Go.Abs
open Go
variable {O : Type} {RO : O → Loc → (Nat → Option Obj) → Prop} {P : Program} {G : List (Nat × Sm O)} {n : Nat}
abbrev Did (listed : Array Bool) (i : Nat) : Prop := listed.getD i false = true
structure InvE (ops : List Oper) (l : List Nat) (S : Nat → RS O) (n : Nat) (a0 : Act) (listed : Array Bool) (a : Act) (ρ : Inj) : Prop where
 lsz : listed.size = ops.length
 closed : Closed ops (Did listed)
 size : a.tmps.size = n
 slots : ∀ t m, m ≤ l.length → (∀ q i o, q < m → At ops l q i o → o.dst = some t → Did listed i) → (∀ q i o, m ≤ q → At ops l q i o → o.dst = some t → ¬ Did listed i) → VRel ρ ((S m).e t) (a.tmps.getD t undef)
 defers : a.defers = a0.defers
 out : ∀ t, t ∉ dstsOf ops → a.tmps.getD t undef = a0.tmps.getD t undef
structure InvH (RO : O → Loc → (Nat → Option Obj) → Prop) (P : Program) (ops : List Oper) (l : List Nat) (S : Nat → RS O) (ρ0 : Inj) (fp0 : Fp) (σ0 : AH O) (w0 : World) (listed : Array Bool) (w : World) (ρ : Inj) (fp : Fp) (σd : AH O) (j : Nat) : Prop where
 jle : j ≤ l.length
 jz : j = 0 ∨ ∃ k i o, j = k + 1 ∧ At ops l k i o ∧ Did listed i ∧ turns o.op = true ∧ wants ops (S k).e o = some true
 late : ∀ q i o, j ≤ q → At ops l q i o → Did listed i → ¬ (turns o.op = true ∧ wants ops (S q).e o = some true)
 post : Post RO P (· < (S 0).nid) ρ0 fp0 σ0 w0 ρ fp σd w
 nx : σd.next = (S j).σ.next
 pe : ∀ q i o b x, j ≤ q → At ops l q i o → Did listed i → APut ops S q o b x → σd.blk b = some x
 od : ∀ b, σd.blk b = (S j).σ.blk b ∨ ∃ q i o x, j ≤ q ∧ At ops l q i o ∧ Did listed i ∧ APut ops S q o b x
 bl : ∀ b, (S j).nid ≤ b → b < (S l.length).nid → (S j).σ.blk b = none
 nr : ∀ q i o, At ops l q i o → ¬ Did listed i → allocs o.op = true → ρ (S q).nid = none
 top : (S l.length).nid ≤ (S j).σ.next
section step
variable {ops : List Oper} {l : List Nat} {S : Nat → RS O} {V : Nat → AV} {a0 : Act} {ρ0 : Inj} {fp0 : Fp} {σ0 : AH O} {w0 : World} {listed : Array Bool}
theorem did_set {i k : Nat} (hlt : i < listed.size) : Did (listed.setIfInBounds i true) k ↔ k = i ∨ Did listed k := by
 unfold Did
 by_cases h : i = k
 ·subst h
  simp [hlt]
 ·rw [getD_set_ne false h]
  constructor
  ·exact .inr
  ·rintro (h' | h')
   ·exact absurd h'.symm h
   ·exact h'
theorem Did.lt {ops : List Oper} {listed : Array Bool} (hl : listed.size = ops.length) {i : Nat} (h : Did listed i) : i < ops.length := by
 rw [← hl]
 rcases Nat.lt_or_ge i listed.size with hh | hh
 ·exact hh
 ·simp [Did, Array.getElem?_eq_none hh] at h
theorem InvE.writers (hat : ∀ p, p < l.length → ∃ i o, At ops l p i o) (hr : Run P G ops l S V) {a : Act} {ρ : Inj} (h : InvE ops l S n a0 listed a ρ) {p i : Nat} {o : Oper} (ha : At ops l p i o) (hnd : ¬ Did listed i) (hrd : ∀ e ∈ o.after, Region.binds .any e = true → Did listed e.on)
  {t : Nat} (ht : t ∈ looks ops o) : VRel ρ ((S p).e t) (a.tmps.getD t undef) := by
 have hD : ∀ i, Did listed i → i < ops.length := fun i hi => Did.lt h.lsz hi
 refine h.slots t p (Nat.le_of_lt ha.lt) (fun q i' o' hq hb hd => ?_) (fun q i' o' hq hb hd hdid => ?_)
 ·have hp := hr.sch.pair q p i' i o' o hq hb ha
  rcases hp.or with g | ⟨g, _⟩
  ·exact ready_bef h.closed hD ha.2 hrd g
  ·exact absurd ht ((meddle_spec g).1 t hd).1
 ·by_cases hpq : q = p
  ·subst hpq
   obtain ⟨rfl, rfl⟩ := ha.fn hb
   exact hnd hdid
  ·have hp := hr.sch.pair p q i i' o o' (by omega) ha hb
   rcases hp.or with g | ⟨g, _⟩
   ·exact hnd (h.closed.bef hD i' i hdid g)
   ·exact absurd ht ((meddle_spec g).2 t hd)
theorem InvE.next (hat : ∀ p, p < l.length → ∃ i o, At ops l p i o) (hr : Run P G ops l S V) (hdst : ∀ (i : Nat) (o : Oper) (d : Nat), ops[i]? = some o → o.dst = some d → d < n) {a : Act} {ρ ρ' : Inj} (h : InvE ops l S n a0 listed a ρ) {p i : Nat} {o : Oper} (ha : At ops l p i o) (hnd : ¬ Did listed i)
  (hrd : ∀ e ∈ o.after, Region.binds .any e = true → Did listed e.on) (hle : ρ.le ρ') {u : Value} (hu : VRel ρ' (V p) u) : InvE ops l S n a0 (listed.setIfInBounds i true) (a.put o.dst u) ρ' := by
 have hD : ∀ i, Did listed i → i < ops.length := fun i hi => Did.lt h.lsz hi
 have hlt : i < listed.size := by rw [h.lsz]; exact (List.getElem?_eq_some_iff.1 ha.2).1
 refine ⟨by simp [h.lsz], fun k ok hk hdk e he hb => ?_, by cases o.dst <;> simp [Act.put, h.size], fun t m hm h1 h2 => ?_, by rw [← h.defers]; cases o.dst <;> rfl, fun t ht => ?_⟩
 ·rw [did_set hlt] at hdk ⊢
  rcases hdk with rfl | hdk
  ·rw [ha.2] at hk; cases hk
   exact .inr (hrd e he hb)
  ·exact .inr (h.closed k ok hk hdk e he hb)
 ·by_cases hd : o.dst = some t
  ·have hpm : p < m := by
    rcases Nat.lt_or_ge p m with hh | hh
    ·exact hh
    ·exact absurd ((did_set hlt).2 (.inl rfl)) (h2 p i o hh ha hd)
   have hv : VRel ρ' ((S (p + 1)).e t) u := by
    have := (hr.st p i o ha).1 t
    rw [hd] at this
    simp only [Env.put, Env.set_get, if_true] at this
    rcases this with g | g <;> rw [g]
    ·exact hu
    ·exact .u _
   have hav : (a.put o.dst u).tmps.getD t undef = u := by
    have := hdst i o t ha.2 hd
    rw [← h.size] at this
    rw [hd]
    simp [Act.put, this]
   rw [hav]
   rcases hr.env_keep hat (t := t) (show p + 1 ≤ m by omega) hm fun r i' o' g1 g2 g3 g4 => by
    have h3 := (did_set hlt).1 (h1 r i' o' g2 g3 g4)
    have hp := hr.sch.pair p r i i' o o' (by omega) ha g3
    rcases h3 with rfl | h3
    ·exact hp.ne rfl
    ·rcases hp.or with g | ⟨g, _⟩
     ·exact hnd (h.closed.bef hD i' i h3 g)
     ·exact ((meddle_spec g).1 t hd).2 g4
    with g | g <;> rw [g]
   ·exact hv
   ·exact .u _
  ·have hav : (a.put o.dst u).tmps.getD t undef = a.tmps.getD t undef := put_keep (fun d hd' e => hd (by rw [hd', e])) u
   rw [hav]
   refine (h.slots t m hm (fun q i' o' g1 g2 g3 => ?_) (fun q i' o' g1 g2 g3 g4 => h2 q i' o' g1 g2 g3 ((did_set hlt).2 (.inr g4)))).mono hle
   rcases (did_set hlt).1 (h1 q i' o' g1 g2 g3) with rfl | g
   ·obtain rfl : q = p := At.inj hr.sch g2 ha
    obtain ⟨_, rfl⟩ := g2.fn ha
    exact absurd g3 hd
   ·exact g
 ·rw [← h.out t ht]
  exact put_keep (fun d hd e => ht (by rw [e]; exact dstsOf_mem ha.2 hd)) u
theorem InvH.ge (hat : ∀ p, p < l.length → ∃ i o, At ops l p i o) (hr : Run P G ops l S V) {w : World} {ρ : Inj} {fp : Fp} {σd : AH O} {j : Nat} (h : InvH RO P ops l S ρ0 fp0 σ0 w0 listed w ρ fp σd j) (hcl : Closed ops (Did listed)) (hsz : listed.size = ops.length)
  {p i : Nat} {o : Oper} (ha : At ops l p i o) (hnd : ¬ Did listed i) (ht : turns o.op = true ∨ allocs o.op = true) : j ≤ p := by
 rcases h.jz with hj | ⟨k, i', o', hj, hb, hd, ht', _⟩
 ·omega
 ·rcases Nat.lt_or_ge p j with hh | hh
  ·have hne : p ≠ k := fun e => by
    subst e
    obtain ⟨rfl, rfl⟩ := ha.fn hb
    exact hnd hd
   have hp := hr.sch.pair p k i i' o o' (by omega) ha hb
   rcases hp.or with g | ⟨_, g1, g2⟩
   ·exact absurd (hcl.bef (fun i hi => Did.lt hsz hi) i' i hd g) hnd
   ·cases htt : turns o.op with
    | true => have := (g1 htt).1; rw [ht'] at this; cases this
    | false =>
     rw [htt] at ht
     rcases ht with ht | ht
     ·cases ht
     ·have := g2 ht htt; rw [ht'] at this; cases this
  ·exact hh
theorem InvH.nr' (hat : ∀ p, p < l.length → ∃ i o, At ops l p i o) (hr : Run P G ops l S V) {w w' : World} {ρ ρ' : Inj} {fp fp' : Fp} {σd σd' : AH O} {j : Nat} (h : InvH RO P ops l S ρ0 fp0 σ0 w0 listed w ρ fp σd j) (hsz : listed.size = ops.length) {p i : Nat} {o : Oper} (ha : At ops l p i o)
  (hp : Post RO P (fun b => b < σd.next ∧ (allocs o.op = true → b ≠ (S p).nid)) ρ fp σd w ρ' fp' σd' w') :
  ∀ q i' o', At ops l q i' o' → ¬ Did (listed.setIfInBounds i true) i' → allocs o'.op = true → ρ' (S q).nid = none := fun q i' o' g1 g2 g3 => by
 have hlt : i < listed.size := by rw [hsz]; exact (List.getElem?_eq_some_iff.1 ha.2).1
 rw [did_set hlt] at g2
 have hqp : q ≠ p := fun e => by subst e; exact g2 (.inl (g1.fn ha).1)
 rw [hp.ext _ ⟨by
  have := hr.nid_lt hat g1.lt (Nat.le_refl _) g1 g3
  rw [h.nx]; have := h.top; omega, fun hal => hr.nid_ne hat hqp g1 g3 ha hal⟩]
 exact h.nr q i' o' g1 (fun e => g2 (.inr e)) g3
theorem InvH.post' (hat : ∀ p, p < l.length → ∃ i o, At ops l p i o) (hr : Run P G ops l S V) {w w' : World} {ρ ρ' : Inj} {fp fp' : Fp} {σd σd' : AH O} {j : Nat} (h : InvH RO P ops l S ρ0 fp0 σ0 w0 listed w ρ fp σd j) {p i : Nat} {o : Oper} (ha : At ops l p i o)
  (hp : Post RO P (fun b => b < σd.next ∧ (allocs o.op = true → b ≠ (S p).nid)) ρ fp σd w ρ' fp' σd' w') : Post RO P (· < (S 0).nid) ρ0 fp0 σ0 w0 ρ' fp' σd' w' :=
 h.post.trans (hp.mono fun b (hb : b < (S 0).nid) => by
  have h1 := hr.nid_mono hat (Nat.zero_le p) (Nat.le_of_lt ha.lt)
  have h2 := hr.nid_mono hat (Nat.zero_le l.length) (Nat.le_refl _)
  have h3 := h.top
  exact ⟨by rw [h.nx]; omega, fun _ => by omega⟩)
theorem InvH.same (hat : ∀ p, p < l.length → ∃ i o, At ops l p i o) (hr : Run P G ops l S V) {w w' : World} {ρ ρ' : Inj} {fp fp' : Fp} {σd : AH O} {j : Nat} (h : InvH RO P ops l S ρ0 fp0 σ0 w0 listed w ρ fp σd j) (hsz : listed.size = ops.length) {p i : Nat} {o : Oper} (ha : At ops l p i o)
  (hn : ¬ (turns o.op = true ∧ wants ops (S p).e o = some true)) (hna : ∀ b x, ¬ APut ops S p o b x) (hp : Post RO P (fun b => b < σd.next ∧ (allocs o.op = true → b ≠ (S p).nid)) ρ fp σd w ρ' fp' σd w') :
  InvH RO P ops l S ρ0 fp0 σ0 w0 (listed.setIfInBounds i true) w' ρ' fp' σd j := by
 have hlt : i < listed.size := by rw [hsz]; exact (List.getElem?_eq_some_iff.1 ha.2).1
 refine ⟨h.jle, ?_, fun q i' o' h1 h2 h3 => ?_, h.post' hat hr ha hp, h.nx, fun q i' o' b x h1 h2 h3 h4 => ?_, fun b => ?_, h.bl, h.nr' hat hr hsz ha hp, h.top⟩
 ·rcases h.jz with hj | ⟨k, i', o', hj, hb, hd, ht', g⟩
  ·exact .inl hj
  ·exact .inr ⟨k, i', o', hj, hb, (did_set hlt).2 (.inr hd), ht', g⟩
 ·rcases (did_set hlt).1 h3 with rfl | h3
  ·obtain rfl : q = p := At.inj hr.sch h2 ha
   obtain ⟨_, rfl⟩ := h2.fn ha
   exact hn
  ·exact h.late q i' o' h1 h2 h3
 ·rcases (did_set hlt).1 h3 with rfl | h3
  ·obtain rfl : q = p := At.inj hr.sch h2 ha
   obtain ⟨_, rfl⟩ := h2.fn ha
   exact absurd h4 (hna b x)
  ·exact h.pe q i' o' b x h1 h2 h3 h4
 ·rcases h.od b with g | ⟨q, i', o', x, g1, g2, g3, g4⟩
  ·exact .inl g
  ·exact .inr ⟨q, i', o', x, g1, g2, (did_set hlt).2 (.inr g3), g4⟩
theorem InvH.alloc (hat : ∀ p, p < l.length → ∃ i o, At ops l p i o) (hr : Run P G ops l S V) {w w' : World} {ρ ρ' : Inj} {fp fp' : Fp} {σd : AH O} {j : Nat} (h : InvH RO P ops l S ρ0 fp0 σ0 w0 listed w ρ fp σd j) (hcl : Closed ops (Did listed)) (hsz : listed.size = ops.length) {p i : Nat} {o : Oper} (ha : At ops l p i o) (hnd : ¬ Did listed i)
  {x : Blk O} (hx : APut ops S p o (S p).nid x) (hp : Post RO P (fun b => b < σd.next ∧ (allocs o.op = true → b ≠ (S p).nid)) ρ fp σd w ρ' fp' (σd.put (S p).nid x) w') :
  InvH RO P ops l S ρ0 fp0 σ0 w0 (listed.setIfInBounds i true) w' ρ' fp' (σd.put (S p).nid x) j := by
 have hlt : i < listed.size := by rw [hsz]; exact (List.getElem?_eq_some_iff.1 ha.2).1
 have hjp : j ≤ p := h.ge hat hr hcl hsz ha hnd (.inr hx.al)
 refine ⟨h.jle, ?_, fun q i' o' h1 h2 h3 => ?_, h.post' hat hr ha hp, h.nx, fun q i' o' b y h1 h2 h3 h4 => ?_, fun b => ?_, h.bl, h.nr' hat hr hsz ha hp, h.top⟩
 ·rcases h.jz with hj | ⟨k, i', o', hj, hb, hd, ht', g⟩
  ·exact .inl hj
  ·exact .inr ⟨k, i', o', hj, hb, (did_set hlt).2 (.inr hd), ht', g⟩
 ·rcases (did_set hlt).1 h3 with rfl | h3
  ·obtain rfl : q = p := At.inj hr.sch h2 ha
   obtain ⟨_, rfl⟩ := h2.fn ha
   rintro ⟨g, _⟩
   rw [hx.nt] at g; cases g
  ·exact h.late q i' o' h1 h2 h3
 ·by_cases hqp : q = p
  ·subst hqp
   obtain ⟨_, rfl⟩ := h2.fn ha
   have e := h4.id
   subst e
   have e1 : (S (q + 1)).σ.blk (S q).nid = some y := by rw [h4.σ]; simp
   have e2 : (S (q + 1)).σ.blk (S q).nid = some x := by rw [hx.σ]; simp
   rw [e1] at e2; cases e2
   simp
  ·have hne := hr.nid_ne hat hqp h2 h4.al ha hx.al
   rw [← h4.id] at hne
   rcases (did_set hlt).1 h3 with rfl | h3
   ·exact absurd (At.inj hr.sch h2 ha) hqp
   ·simp only [AH.put_blk, hne, if_false]
    exact h.pe q i' o' b y h1 h2 h3 h4
 ·by_cases hb : b = (S p).nid
  ·subst hb
   exact .inr ⟨p, i, o, x, hjp, ha, (did_set hlt).2 (.inl rfl), hx⟩
  ·simp only [AH.put_blk, hb, if_false]
   rcases h.od b with g | ⟨q, i', o', y, g1, g2, g3, g4⟩
   ·exact .inl g
   ·exact .inr ⟨q, i', o', y, g1, g2, (did_set hlt).2 (.inr g3), g4⟩
theorem InvH.sub (hat : ∀ p, p < l.length → ∃ i o, At ops l p i o) (hr : Run P G ops l S V) {w : World} {ρ : Inj} {fp : Fp} {σd : AH O} {j : Nat} (h : InvH RO P ops l S ρ0 fp0 σ0 w0 listed w ρ fp σd j) {p : Nat} (hjp : j ≤ p) (hpl : p ≤ l.length)
  (hq : ∀ q i o, j ≤ q → q < p → At ops l q i o → ¬ (turns o.op = true ∧ wants ops (S q).e o = some true)) {b : Nat} {x : Blk O} (hx : (S p).σ.blk b = some x)
  (hd : ∀ q i o, j ≤ q → q < p → At ops l q i o → b = (S q).nid → allocs o.op = true → turns o.op = false → Did listed i) : σd.blk b = some x := by
 obtain ⟨h1, h2, h3⟩ := hr.heap hat hjp hpl hq
 rcases h1 b with g | ⟨q, i, o, y, g1, g2, g3, g4, g5⟩
 ·rcases h.od b with g' | ⟨q, i, o, y, g1, g2, g3, g4⟩
  ·rw [g', ← g]; exact hx
  ·rw [g, h.bl b (by rw [g4.id]; exact hr.nid_mono hat g1 (Nat.le_of_lt g2.lt)) (by rw [g4.id]; exact hr.nid_lt hat g2.lt (Nat.le_refl _) g2 g4.al)] at hx
   cases hx
 ·rw [hx] at g5; cases g5
  exact h.pe q i o b _ g1 g3 (hd q i o g1 g2 g3 g4.id g4.al g4.nt) g4
theorem InvH.turn (hat : ∀ p, p < l.length → ∃ i o, At ops l p i o) (hr : Run P G ops l S V) {w w' : World} {ρ ρ' : Inj} {fp fp' : Fp} {σd : AH O} {j : Nat} (h : InvH RO P ops l S ρ0 fp0 σ0 w0 listed w ρ fp σd j) (hcl : Closed ops (Did listed)) (hsz : listed.size = ops.length) {p i : Nat} {o : Oper} (ha : At ops l p i o) (hnd : ¬ Did listed i)
  (hrd : ∀ e ∈ o.after, Region.binds .any e = true → Did listed e.on) (ht : turns o.op = true) (hwt : wants ops (S p).e o = some true) :
  Rel RO P ρ (shr fp (S p).σ) (S p).σ w ∧ (allocs o.op = true → (S p).nid < (S p).σ.next ∧ ρ (S p).nid = none) ∧
  (Post RO P (fun b => b < (S p).σ.next ∧ (allocs o.op = true → b ≠ (S p).nid)) ρ (shr fp (S p).σ) (S p).σ w ρ' fp' (S (p + 1)).σ w' →
   ∃ fp3 σd', InvH RO P ops l S ρ0 fp0 σ0 w0 (listed.setIfInBounds i true) w' ρ' fp3 σd' (p + 1)) := by
 have hlt : i < listed.size := by rw [hsz]; exact (List.getElem?_eq_some_iff.1 ha.2).1
 have hD : ∀ i, Did listed i → i < ops.length := fun i hi => Did.lt hsz hi
 have hjp : j ≤ p := h.ge hat hr hcl hsz ha hnd (.inl ht)
 have before : ∀ q i' o', q < p → At ops l q i' o' → (turns o'.op = true ∨ allocs o'.op = true) → Did listed i' := fun q i' o' g1 g2 g3 => by
  have hp := hr.sch.pair q p i' i o' o g1 g2 ha
  rcases hp.or with g | ⟨_, g4, g5⟩
  ·exact ready_bef hcl hD ha.2 hrd g
  ·cases htt : turns o'.op with
   | true => have := (g4 htt).1; rw [ht] at this; cases this
   | false =>
    rw [htt] at g3
    rcases g3 with g3 | g3
    ·cases g3
    ·have := g5 g3 htt; rw [ht] at this; cases this
 have hq : ∀ q i' o', j ≤ q → q < p → At ops l q i' o' → ¬ (turns o'.op = true ∧ wants ops (S q).e o' = some true) := fun q i' o' g1 g2 g3 g4 =>
  h.late q i' o' g1 g3 (before q i' o' g2 g3 (.inl g4.1)) g4
 have hpl := Nat.le_of_lt ha.lt
 obtain ⟨e1, e2, e3⟩ := hr.heap hat hjp hpl hq
 have hsub : ∀ b x, (S p).σ.blk b = some x → σd.blk b = some x := fun b x hx => h.sub hat hr hjp hpl hq hx fun q i' o' g1 g2 g3 _ g5 _ => before q i' o' g2 g3 (.inr g5)
 have hn : (S p).σ.next = σd.next := by rw [e3, h.nx]
 have hblank : ∀ b, (S p).nid ≤ b → b < (S l.length).nid → (S p).σ.blk b = none := fun b g1 g2 => by
  rcases e1 b with g | ⟨q, i', o', y, g3, g4, g5, g6, g7⟩
  ·rw [g]
   exact h.bl b (Nat.le_trans (hr.nid_mono hat hjp hpl) g1) g2
  ·have := hr.nid_lt hat g4 hpl g5 g6.al
   rw [← g6.id] at this; omega
 have hpend : ∀ b x, (S p).σ.blk b = none → σd.blk b = some x → ∃ q i' o', p < q ∧ At ops l q i' o' ∧ Did listed i' ∧ APut ops S q o' b x := fun b x g1 g2 => by
  rcases h.od b with g | ⟨q, i', o', y, g3, g4, g5, g6⟩
  ·rw [g2] at g
   rcases e1 b with g' | ⟨q, i', o', y, g3, g4, g5, g6, g7⟩
   ·rw [g1, ← g] at g'; cases g'
   ·rw [g7] at g1; cases g1
  ·have hqp : p < q := by
    rcases Nat.lt_trichotomy q p with hh | hh | hh
    ·rw [e2 q i' o' b y g3 hh g4 g6] at g1; cases g1
    ·subst hh
     obtain ⟨rfl, rfl⟩ := g4.fn ha
     exact absurd g5 hnd
    ·exact hh
   have := h.pe q i' o' b y g3 g4 g5 g6
   rw [g2] at this; cases this
   exact ⟨q, i', o', hqp, g4, g5, g6⟩
 have hpS : ∀ b x, (S p).σ.blk b = none → σd.blk b = some x → (∃ el cs, x = .cells true el cs) ∧ (b < (S p).σ.next ∧ (allocs o.op = true → b ≠ (S p).nid)) := fun b x g1 g2 => by
  obtain ⟨q, i', o', g3, g4, _, g6⟩ := hpend b x g1 g2
  refine ⟨g6.sh, ?_, fun hal => ?_⟩
  ·rw [g6.id, e3]
   have := hr.nid_lt hat g4.lt (Nat.le_refl _) g4 g6.al
   have := h.top
   omega
  ·rw [g6.id]; exact hr.nid_ne hat (by omega) g4 g6.al ha hal
 refine ⟨h.post.rel.shrink hsub hn, fun hal => ⟨?_, h.nr p i o ha hnd hal⟩, fun hp => ?_⟩
 ·have := hr.nid_lt hat ha.lt (Nat.le_refl _) ha hal
  have := h.top
  rw [e3]; omega
 ·obtain ⟨fp3, h3⟩ := Post.around h.post.rel hsub hn hpS hp
  have h3' : Post RO P (fun b => b < σd.next ∧ (allocs o.op = true → b ≠ (S p).nid)) ρ fp σd w ρ' fp3 (regrow (S p).σ σd (S (p + 1)).σ) w' := h3.mono fun b hb => by rw [hn]; exact hb
  have hnid := hr.nid ha
  have hge : (S p).nid ≤ (S (p + 1)).nid := by rw [hnid]; split <;> omega
  refine ⟨fp3, _, ha.lt, .inr ⟨p, i, o, rfl, ha, (did_set hlt).2 (.inl rfl), ht, hwt⟩, fun q i' o' g1 g2 g3 => ?_, h.post' hat hr ha h3', rfl, fun q i' o' b x g1 g2 g3 g4 => ?_, fun b => ?_, fun b g1 g2 => ?_, h.nr' hat hr hsz ha h3', ?_⟩
  ·rcases (did_set hlt).1 g3 with rfl | g3
   ·have := At.inj hr.sch g2 ha; omega
   ·exact h.late q i' o' (by omega) g2 g3
  ·have g5 : Did listed i' := by
    rcases (did_set hlt).1 g3 with rfl | g3
    ·have := At.inj hr.sch g2 ha; omega
    ·exact g3
   have g6 := h.pe q i' o' b x (by omega) g2 g5 g4
   have g7 : (S p).σ.blk b = none := hblank b (by rw [g4.id]; exact hr.nid_mono hat (show p ≤ q by omega) (Nat.le_of_lt g2.lt)) (by rw [g4.id]; exact hr.nid_lt hat g2.lt (Nat.le_refl _) g2 g4.al)
   have : pend (S p).σ σd b = true := by simp [pend, g6, g7]
   simp [regrow, this, g6]
  ·by_cases hpd : pend (S p).σ σd b = true
   ·right
    obtain ⟨g1, x, g2⟩ := pend_spec hpd
    obtain ⟨q, i', o', g3, g4, g5, g6⟩ := hpend b x g1 g2
    exact ⟨q, i', o', x, g3, g4, (did_set hlt).2 (.inr g5), g6⟩
   ·left; simp [regrow, hpd]
  ·refine hp.blank b ⟨?_, fun hal => ?_⟩ ?_ (hblank b (by omega) g2)
   ·have := h.top; rw [e3]; omega
   ·rw [hnid, if_pos hal] at g1; omega
   ·have := h.top; rw [e3]; omega
  ·have h5 := hp.next
   have := h.top
   rw [e3] at h5
   exact Nat.le_trans this h5
end step
end Go.Abs
