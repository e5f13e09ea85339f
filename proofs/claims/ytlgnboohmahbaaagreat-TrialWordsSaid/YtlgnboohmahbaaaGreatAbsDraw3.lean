/-
  AbsDraw3: what is known while a drawn region's operations are run in some order.
-/
import Derived.Test.YtlgnboohmahbaaaGreatAbsDraw2
set_option linter.unusedVariables false
set_option linter.unusedSimpArgs false
set_option linter.constructorNameAsVariable false
namespace Go.Abs
open Go
variable {O : Type} {RO : O → Loc → (Nat → Option Obj) → Prop} {P : Program} {G : List (Nat × Sm O)} {n : Nat}
def At (ops : List Oper) (l : List Nat) (p i : Nat) (o : Oper) : Prop := l[p]? = some i ∧ ops[i]? = some o
structure Sch (ops : List Oper) (l : List Nat) : Prop where
 len : l.length = ops.length
 pos : ∀ i, i < ops.length → ∃ p : Nat, l[p]? = some i
 pair : ∀ p q i i' o o', p < q → At ops l p i o → At ops l q i' o' → PairOK ops i i' o o'
 edge : ∀ p i o, At ops l p i o → ∀ e ∈ o.after, Region.binds .any e = true → ∃ q : Nat, q < p ∧ l[q]? = some e.on
 odd : ∀ (i : Nat) (o : Oper), ops[i]? = some o → noOdd o = true
 cnt : nidOf ops l 0 = numAllocs ops
theorem okEdges_spec {ops : List Oper} : ∀ {l done : List Nat}, okEdges ops done l = true → ∀ (p i : Nat) (o : Oper), At ops l p i o → ∀ e ∈ o.after, Region.binds .any e = true → e.on ∈ done ∨ ∃ q : Nat, q < p ∧ l[q]? = some e.on
 | [], _, _, p, i, o, h, _, _, _ => by cases h.1
 | x :: l, done, h, p, i, o, hat, e, he, hb => by
  simp only [okEdges, Bool.and_eq_true] at h
  cases p with
  | zero =>
   obtain ⟨h1, h2⟩ := hat
   cases h1
   rw [h2] at h
   have := List.all_eq_true.1 h.1 e (by simpa using he)
   rw [hb] at this
   exact .inl (by simpa using this)
  | succ p =>
   rcases okEdges_spec h.2 p i o ⟨by simpa using hat.1, hat.2⟩ e he hb with h1 | ⟨q, h1, h2⟩
   ·rcases List.mem_cons.1 h1 with h1 | h1
    ·exact .inr ⟨0, by omega, by rw [h1]; rfl⟩
    ·exact .inl h1
   ·exact .inr ⟨q + 1, by omega, by simpa using h2⟩
theorem okSched_spec {ops : List Oper} {l : List Nat} (h : okSched ops (befs ops) l = true) : Sch ops l := by
 unfold okSched at h
 simp only [Bool.and_eq_true] at h
 obtain ⟨⟨⟨⟨⟨⟨h1, h2⟩, h3⟩, h4⟩, h5⟩, h6⟩, h7⟩ := h
 refine ⟨Nat.eq_of_beq_eq_true h1, fun i hi => ?_, fun p q i i' o o' hpq hp hq => ?_, fun p i o hp e he hb => ?_, fun i o ho => List.all_eq_true.1 h5 o (List.mem_of_getElem? ho), Nat.eq_of_beq_eq_true h7⟩
 ·have := List.all_eq_true.1 h3 i (by simpa using hi)
  exact List.getElem?_of_mem (by simpa using this)
 ·exact okPair_spec (okAll_spec h4 p q i i' hpq hp.1 hq.1) hp.2 hq.2
 ·rcases okEdges_spec h6 p i o hp e he hb with h | h
  ·cases h
  ·exact h
theorem nidOf_add {ops : List Oper} : ∀ (l : List Nat) (k m : Nat), nidOf ops l (k + m) = nidOf ops l k + m
 | [], _, _ => rfl
 | q :: l, k, m => by
  simp only [nidOf]
  rw [← nidOf_add l]
  congr 1
  split
  ·rename_i o _; cases allocs o.op <;> simp only [cond_true, cond_false] <;> omega
  ·rfl
section order
variable {ops : List Oper} {l : List Nat}
theorem At.lt {p i : Nat} {o : Oper} (h : At ops l p i o) : p < l.length := (List.getElem?_eq_some_iff.1 h.1).1
theorem At.fn {p i i' : Nat} {o o' : Oper} (h : At ops l p i o) (h' : At ops l p i' o') : i = i' ∧ o = o' := by
 obtain ⟨h1, h2⟩ := h
 obtain ⟨h3, h4⟩ := h'
 rw [h1] at h3; cases h3
 rw [h2] at h4; cases h4
 exact ⟨rfl, rfl⟩
theorem At.inj (hs : Sch ops l) {p q i : Nat} {o o' : Oper} (h : At ops l p i o) (h' : At ops l q i o') : p = q := by
 rcases Nat.lt_trichotomy p q with hh | hh | hh
 ·exact absurd rfl (hs.pair p q i i o o' hh h h').ne
 ·exact hh
 ·exact absurd rfl (hs.pair q p i i o' o hh h' h).ne
end order
structure APut (ops : List Oper) (S : Nat → RS O) (p : Nat) (o : Oper) (b : Nat) (x : Blk O) : Prop where
 al : allocs o.op = true
 nt : turns o.op = false
 wt : wants ops (S p).e o = some true
 id : b = (S p).nid
 σ : (S (p + 1)).σ = (S p).σ.put b x
 sh : ∃ el cs, x = .cells true el cs
structure Run (P : Program) (G : List (Nat × Sm O)) (ops : List Oper) (l : List Nat) (S : Nat → RS O) (V : Nat → AV) : Prop where
 sch : Sch ops l
 st : ∀ p i o, At ops l p i o → StepR P G ops o (S p) (S (p + 1)) (V p)
 kp : ∀ q p i o i' o', q < p → At ops l q i o → At ops l p i' o' → loads o.op = true → wants ops (S q).e o = some true → wants ops (S p).e o' = some true → turns o'.op = true → bit ((befs ops).getD i' 0) i = false → Kept o (S q) (V q) (S (p + 1)).σ
section run
variable {ops : List Oper} {l : List Nat} {S : Nat → RS O} {V : Nat → AV}
theorem Run.still (h : Run P G ops l S V) {p i : Nat} {o : Oper} (ha : At ops l p i o) (hn : ¬ (turns o.op = true ∧ wants ops (S p).e o = some true)) :
  (S (p + 1)).σ = (S p).σ ∨ ∃ x, APut ops S p o (S p).nid x := by
 obtain ⟨_, _, h3⟩ := h.st p i o ha
 rcases h3 with ⟨h3, h4⟩ | ⟨_, _, h5⟩
 ·have ht : turns o.op = false := by
   cases ht : turns o.op with
   | false => rfl
   | true => exact absurd ⟨ht, h3⟩ hn
  cases hal : allocs o.op with
  | true =>
   obtain ⟨el, cs, h5, _⟩ := opK_alloc h4 ht hal
   exact .inr ⟨_, hal, ht, h3, rfl, h5, el, cs, rfl⟩
  | false =>
   cases hl : loads o.op with
   | false => exact .inl (opK_pure h4 ht hal hl).1
   | true =>
    left
    cases hop : o.op <;> rw [hop] at hl <;> first | (simp [loads] at hl; done) | skip
    ·rw [hop] at h4; exact (load_again h4).1
    ·rw [hop] at h4; exact (conv_again h4).1
 ·exact .inl h5
theorem Run.nid (h : Run P G ops l S V) {p i : Nat} {o : Oper} (ha : At ops l p i o) : (S (p + 1)).nid = (if allocs o.op = true then (S p).nid + 1 else (S p).nid) := (h.st p i o ha).2.1
theorem Run.nid_mono (hat : ∀ p, p < l.length → ∃ i o, At ops l p i o) (h : Run P G ops l S V) {p q : Nat} (hpq : p ≤ q) (hq : q ≤ l.length) : (S p).nid ≤ (S q).nid := by
 induction q with
 | zero => have : p = 0 := by omega
           subst this; exact Nat.le_refl _
 | succ q ih =>
  rcases Nat.lt_or_ge q p with hh | hh
  ·have : p = q + 1 := by omega
   subst this; exact Nat.le_refl _
  ·obtain ⟨i, o, ha⟩ := hat q (by omega)
   have h1 := ih hh (by omega)
   have h2 := h.nid ha
   split at h2 <;> omega
theorem Run.nid_lt (hat : ∀ p, p < l.length → ∃ i o, At ops l p i o) (h : Run P G ops l S V) {p q i : Nat} {o : Oper} (hpq : p < q) (hq : q ≤ l.length) (ha : At ops l p i o) (hal : allocs o.op = true) : (S p).nid < (S q).nid := by
 have h1 := h.nid ha
 rw [if_pos hal] at h1
 have := h.nid_mono hat (show p + 1 ≤ q by omega) hq
 omega
theorem Run.nid_ne (hat : ∀ p, p < l.length → ∃ i o, At ops l p i o) (h : Run P G ops l S V) {p q i i' : Nat} {o o' : Oper} (hpq : p ≠ q) (ha : At ops l p i o) (hal : allocs o.op = true) (ha' : At ops l q i' o') (hal' : allocs o'.op = true) : (S p).nid ≠ (S q).nid := by
 rcases Nat.lt_or_ge p q with hh | hh
 ·have := h.nid_lt hat hh (Nat.le_of_lt ha'.lt) ha hal; omega
 ·have := h.nid_lt hat (show q < p by omega) (Nat.le_of_lt ha.lt) ha' hal'; omega
theorem Run.env_keep (hat : ∀ p, p < l.length → ∃ i o, At ops l p i o) (h : Run P G ops l S V) {t p q : Nat} (hpq : p ≤ q) (hq : q ≤ l.length) (hw : ∀ r i o, p ≤ r → r < q → At ops l r i o → o.dst ≠ some t) : (S q).e t = (S p).e t ∨ (S q).e t = .u := by
 induction q with
 | zero => have : p = 0 := by omega
           subst this; exact .inl rfl
 | succ q ih =>
  rcases Nat.lt_or_ge q p with hh | hh
  ·have : p = q + 1 := by omega
   subst this; exact .inl rfl
  ·obtain ⟨i, o, ha⟩ := hat q (by omega)
   have hne := hw q i o hh (by omega) ha
   have h1 := (h.st q i o ha).1 t
   have h2 : ((S q).e.put o.dst (V q)) t = (S q).e t := by
    cases hd : o.dst with
    | none => rfl
    | some d =>
     simp only [Env.put, Env.set_get]
     rw [if_neg fun e => hne (by rw [hd, e])]
   rw [h2] at h1
   rcases h1 with h1 | h1
   ·rcases ih hh (by omega) (fun r i o h1 h2 => hw r i o h1 (by omega)) with h3 | h3
    ·exact .inl (h1.trans h3)
    ·exact .inr (h1.trans h3)
   ·exact .inr h1
theorem Run.heap (hat : ∀ p, p < l.length → ∃ i o, At ops l p i o) (h : Run P G ops l S V) {j p : Nat} (hjp : j ≤ p) (hp : p ≤ l.length) (hq : ∀ q i o, j ≤ q → q < p → At ops l q i o → ¬ (turns o.op = true ∧ wants ops (S q).e o = some true)) :
  (∀ b, (S p).σ.blk b = (S j).σ.blk b ∨ ∃ q i o x, j ≤ q ∧ q < p ∧ At ops l q i o ∧ APut ops S q o b x ∧ (S p).σ.blk b = some x) ∧
  (∀ q i o b x, j ≤ q → q < p → At ops l q i o → APut ops S q o b x → (S p).σ.blk b = some x) ∧ (S p).σ.next = (S j).σ.next := by
 induction p with
 | zero =>
  have : j = 0 := by omega
  subst this
  exact ⟨fun b => .inl rfl, fun q i o b x _ h2 => absurd h2 (by omega), rfl⟩
 | succ p ih =>
  rcases Nat.lt_or_ge p j with hh | hh
  ·have : j = p + 1 := by omega
   subst this
   exact ⟨fun b => .inl rfl, fun q i o b x h1 h2 => absurd h2 (by omega), rfl⟩
  ·obtain ⟨i, o, ha⟩ := hat p (by omega)
   obtain ⟨h1, h2, h3⟩ := ih hh (by omega) fun q i o g1 g2 => hq q i o g1 (by omega)
   rcases h.still ha (hq p i o hh (by omega) ha) with hs | ⟨x, hx⟩
   ·rw [hs]
    refine ⟨fun b => ?_, fun q i' o' b x g1 g2 g3 g4 => ?_, h3⟩
    ·rcases h1 b with g | ⟨q, i', o', x, g1, g2, g3, g4, g5⟩
     ·exact .inl g
     ·exact .inr ⟨q, i', o', x, g1, by omega, g3, g4, g5⟩
    ·rcases Nat.lt_or_ge q p with hqp | hqp
     ·exact h2 q i' o' b x g1 hqp g3 g4
     ·have : q = p := by omega
      subst this
      have g5 := g4.σ
      rw [hs] at g5
      rw [g5]; simp
   ·have e := hx.σ
    refine ⟨fun b => ?_, fun q i' o' b y g1 g2 g3 g4 => ?_, by rw [e]; exact h3⟩
    ·by_cases hb : b = (S p).nid
     ·subst hb
      exact .inr ⟨p, i, o, x, hh, by omega, ha, hx, by rw [e]; simp⟩
     ·have e' : (S (p + 1)).σ.blk b = (S p).σ.blk b := by rw [e]; simp [hb]
      rw [e']
      rcases h1 b with g | ⟨q, i', o', y, g1, g2, g3, g4, g5⟩
      ·exact .inl g
      ·exact .inr ⟨q, i', o', y, g1, by omega, g3, g4, g5⟩
    ·rcases Nat.lt_or_ge q p with hqp | hqp
     ·have g5 := h2 q i' o' b y g1 hqp g3 g4
      have hb : b ≠ (S p).nid := by
       rw [g4.id]
       exact h.nid_ne hat (by omega) g3 g4.al ha hx.al
      rw [e]; simp [hb, g5]
     ·have : q = p := by omega
      subst this
      rw [g4.σ]; simp
end run
end Go.Abs
