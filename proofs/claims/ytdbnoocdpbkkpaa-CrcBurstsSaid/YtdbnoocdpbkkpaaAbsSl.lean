/-
  AbsSl: slices in proofs about what is run: appending, reading, writing.
-/
import Derived.Test.YtdbnoocdpbkkpaaAbsBits
set_option linter.unusedVariables false
set_option linter.unusedSimpArgs false
namespace Go.Abs
open Go
variable {O : Type}

theorem beq_ok {n : Nat} : Nat.beq n n = true := Nat.beq_refl n

/-- other blocks than that of this slice are as they were -/
def Apart (σ σ' : AH O) (a : SA) : Prop := ∀ b, b < σ.next → (∀ o e, a ≠ .loc b o e) → σ'.blk b = σ.blk b

/-- a new slice, all of it -/
theorem Rd.new {σ : AH O} {b el es n : Nat} {cs : List AV} (hb : b < σ.next) (hx : σ.blk b = some (.cells true el cs)) (hl : cs.length = n * es) : Rd σ es (.loc b 0 es) n cs :=
  ⟨hl, rfl, hb, true, el, cs, hx, by omega, by rw [List.drop_zero, List.take_of_length_le (by omega)]⟩

theorem app_ok {σ : AH O} {base nid el es n m : Nat} {a : SA} {cs new : List AV} (h : Rd σ es a n cs) (ho : Own base σ el a) (h1 : base ≤ nid) (h2 : nid < σ.next) (hne : ∀ o e, a ≠ .loc nid o e) (hm : new.length = m * es) :
    Ok (σ.appSl nid el es a n m new) fun r => ∃ a', r.1 = .sl a' (n + m) ∧ Rd r.2 es a' (n + m) (cs ++ new) ∧ Own base r.2 el a' ∧ r.2.next = σ.next ∧ (∀ b, b ≠ nid → (∀ o e, a ≠ .loc b o e) → r.2.blk b = σ.blk b) ∧ ∀ b o e, a' = .loc b o e → b = nid := by
  have hw := h.wh
  have hl := h.len
  have hmul : (n + m) * es = n * es + m * es := Nat.add_mul _ _ _
  cases a with
  | loc b o es' =>
    obtain ⟨rfl, hb, ow, el', all, h3, h4, h5⟩ := hw
    obtain ⟨g1, all', g2⟩ := ho
    rw [g2] at h3; cases h3
    have hbn : b ≠ nid := fun e => hne o es' (by rw [e])
    have hc : (Nat.beq el el && Nat.ble (o + n * es') all.length) = true := by
      rw [beq_ok, Bool.true_and]; exact Nat.ble_eq_true_of_le h4
    simp only [AH.appSl, g2, hc, cond_true]
    rw [← h5]
    refine Ok_some.2 ⟨_, rfl, Rd.new (el := el) h2 (by simp) (by simp [hl, hm, hmul]), ⟨h1, _, by simp; rfl⟩, rfl, fun q hq hq' => ?_, fun b o e he => by injection he with e1; exact e1.symm⟩
    have : q ≠ b := fun e => hq' o es' (by rw [e])
    simp [hq, this]
  | nil =>
    obtain ⟨rfl, rfl⟩ := hw
    have z : Nat.beq 0 0 = true := rfl
    simp only [AH.appSl, z, cond_true]
    cases m with
    | zero =>
      simp only [z, cond_true]
      have : new = [] := by simpa using hm
      subst this
      exact Ok_some.2 ⟨_, rfl, by simpa using h, trivial, rfl, fun _ _ _ => rfl, fun b o e he => by cases he⟩
    | succ m =>
      have z' : Nat.beq (m + 1) 0 = false := rfl
      simp only [z', cond_false]
      refine Ok_some.2 ⟨.loc nid 0 es, by rw [Nat.zero_add], Rd.new (el := el) h2 (by simp) (by simp [hm]), ⟨h1, _, by simp; rfl⟩, rfl, fun q hq _ => by simp [hq], fun b o e he => by injection he with e1; exact e1.symm⟩
  | z =>
    obtain ⟨rfl, rfl⟩ := hw
    have z : Nat.beq 0 0 = true := rfl
    simp only [AH.appSl, z, cond_true]
    cases m with
    | zero =>
      simp only [z, cond_true]
      have : new = [] := by simpa using hm
      subst this
      exact Ok_some.2 ⟨_, rfl, by simpa using h, trivial, rfl, fun _ _ _ => rfl, fun b o e he => by cases he⟩
    | succ m =>
      have z' : Nat.beq (m + 1) 0 = false := rfl
      simp only [z', cond_false]
      refine Ok_some.2 ⟨.loc nid 0 es, by rw [Nat.zero_add], Rd.new (el := el) h2 (by simp) (by simp [hm]), ⟨h1, _, by simp; rfl⟩, rfl, fun q hq _ => by simp [hq], fun b o e he => by injection he with e1; exact e1.symm⟩

theorem Rd.lt {σ : AH O} {es n b o e : Nat} {cs : List AV} (h : Rd σ es (.loc b o e) n cs) : b < σ.next := h.wh.2.1

/-- 'append' of values given one by one, as it is printed -/
theorem app1_ok {σ : AH O} {base el es n k j m C F : Nat} {a : SA} {cs vs : List AV} {R : AV × AH O → Prop} (h : Rd σ es a n cs) (ho : Own base σ el a) (hb : base ≤ σ.next) (hj : j + 1 < k) (hv : vs.length = m * es) (hC : (n + m) * F ≤ C)
    (hR : ∀ (a' : SA) (σ' : AH O), Rd σ' es a' (n + m) (cs ++ vs) → Own base σ' el a' → σ'.next = σ.next + k → Apart σ σ' a → R (.sl a' (n + m), σ')) :
    Ok (AH.rdSl ((σ.bump k).put (σ.next + j) (.cells true el vs)) (.loc (σ.next + j) 0 es) m es) fun new => if Nat.ble ((n + m) * F) C = true then Ok (AH.appSl ((σ.bump k).put (σ.next + j) (.cells true el vs)) (σ.next + j + 1) el es a n m new) R else False := by
  have hlt : ∀ b o e, a = .loc b o e → b < σ.next := fun b o e he => by subst he; exact h.lt
  have h1 : Rd ((σ.bump k).put (σ.next + j) (.cells true el vs)) es (.loc (σ.next + j) 0 es) m vs := Rd.new (el := el) (by simp; omega) (by simp) hv
  refine Ok_of h1.rdSl ?_
  rw [if_pos (Nat.ble_eq_true_of_le hC)]
  have h2 : Rd ((σ.bump k).put (σ.next + j) (.cells true el vs)) es a n cs := h.of (by simp) fun b o e he => by have := hlt b o e he; simp; omega
  have ho2 : Own base ((σ.bump k).put (σ.next + j) (.cells true el vs)) el a := by
    cases a with
    | loc b o e =>
      obtain ⟨g1, all, g2⟩ := ho
      have := hlt b o e rfl
      exact ⟨g1, all, by rw [put_blk, if_neg (by omega)]; exact g2⟩
    | nil => trivial
    | z => trivial
  refine (app_ok h2 ho2 (nid := σ.next + j + 1) (by omega) (by simp; omega) (fun o e he => by have := hlt _ _ _ he; omega) hv).mono fun r ⟨a', g1, g2, g3, g4, g5, g6⟩ => ?_
  obtain ⟨r1, r2⟩ := r
  simp only at g1
  subst g1
  refine hR a' r2 g2 g3 g4 fun b hbn hba => ?_
  rw [g5 b (by omega) hba, put_blk, if_neg (by omega)]; rfl

/-- 'append' of another slice -/
theorem appS_ok {σ : AH O} {base nid el es n m C F : Nat} {a a2 : SA} {cs vs : List AV} {R : AV × AH O → Prop} (h : Rd σ es a n cs) (ho : Own base σ el a) (h2 : Rd σ es a2 m vs) (hb : base ≤ nid) (hn : nid < σ.next) (hne : ∀ o e, a ≠ .loc nid o e) (hC : (n + m) * F ≤ C)
    (hR : ∀ (a' : SA) (σ' : AH O), Rd σ' es a' (n + m) (cs ++ vs) → Own base σ' el a' → σ'.next = σ.next → (∀ b, b ≠ nid → (∀ o e, a ≠ .loc b o e) → σ'.blk b = σ.blk b) → (∀ b o e, a' = .loc b o e → b = nid) → R (.sl a' (n + m), σ')) :
    Ok (AH.rdSl σ a2 m es) fun new => if Nat.ble ((n + m) * F) C = true then Ok (AH.appSl σ nid el es a n m new) R else False := by
  refine Ok_of h2.rdSl ?_
  rw [if_pos (Nat.ble_eq_true_of_le hC)]
  refine (app_ok h ho hb hn hne h2.len).mono fun r ⟨a', g1, g2, g3, g4, g5, g6⟩ => ?_
  obtain ⟨r1, r2⟩ := r
  simp only at g1
  subst g1
  exact hR a' r2 g2 g3 g4 g5 g6

theorem own_ext {σ0 σ σ' : AH O} {el : Nat} {a : SA} (he : Ext σ0 σ) (ho : Own σ0.next σ el a) (hn : σ.next ≤ σ'.next) (hp : Apart σ σ' a) : Ext σ0 σ' :=
  ⟨Nat.le_trans he.next hn, fun b hb => by
    rw [hp b (Nat.lt_of_lt_of_le hb he.next) fun o e h => ?_, he.blk b hb]
    subst h
    have := ho.1; omega⟩

/-- the same, ahead of what follows -/
theorem app1_bind {σ : AH O} {base el es n k j m C F : Nat} {a : SA} {cs vs : List AV} {B : Type} {K : AV × AH O → Option B} {Q : B → Prop} (h : Rd σ es a n cs) (ho : Own base σ el a) (hb : base ≤ σ.next) (hj : j + 1 < k) (hv : vs.length = m * es) (hC : (n + m) * F ≤ C)
    (hR : ∀ (a' : SA) (σ' : AH O), Rd σ' es a' (n + m) (cs ++ vs) → Own base σ' el a' → σ'.next = σ.next + k → Apart σ σ' a → Ok (K (.sl a' (n + m), σ')) Q) :
    Ok ((AH.rdSl ((σ.bump k).put (σ.next + j) (.cells true el vs)) (.loc (σ.next + j) 0 es) m es).bind fun new => bif Nat.ble ((n + m) * F) C then (AH.appSl ((σ.bump k).put (σ.next + j) (.cells true el vs)) (σ.next + j + 1) el es a n m new).bind K else none) Q := by
  rw [Ok_bind]
  have := app1_ok (R := fun r => Ok (K r) Q) h ho hb hj hv hC hR
  refine this.mono fun new hnew => ?_
  rw [Ok_bif, Ok_bind, Ok_none]
  exact hnew
theorem appS_bind {σ : AH O} {base nid el es n m C F : Nat} {a a2 : SA} {cs vs : List AV} {B : Type} {K : AV × AH O → Option B} {Q : B → Prop} (h : Rd σ es a n cs) (ho : Own base σ el a) (h2 : Rd σ es a2 m vs) (hb : base ≤ nid) (hn : nid < σ.next) (hne : ∀ o e, a ≠ .loc nid o e) (hC : (n + m) * F ≤ C)
    (hR : ∀ (a' : SA) (σ' : AH O), Rd σ' es a' (n + m) (cs ++ vs) → Own base σ' el a' → σ'.next = σ.next → (∀ b, b ≠ nid → (∀ o e, a ≠ .loc b o e) → σ'.blk b = σ.blk b) → (∀ b o e, a' = .loc b o e → b = nid) → Ok (K (.sl a' (n + m), σ')) Q) :
    Ok ((AH.rdSl σ a2 m es).bind fun new => bif Nat.ble ((n + m) * F) C then (AH.appSl σ nid el es a n m new).bind K else none) Q := by
  rw [Ok_bind]
  have := appS_ok (R := fun r => Ok (K r) Q) h ho h2 hb hn hne hC hR
  refine this.mono fun new hnew => ?_
  rw [Ok_bif, Ok_bind, Ok_none]
  exact hnew
/-- 'append([]T{}, a...)': a copy -/
theorem copy_bind {σ : AH O} {el es m k C F : Nat} {a2 : SA} {vs : List AV} {B : Type} {K : AV × AH O → Option B} {Q : B → Prop} (h2 : Rd σ es a2 m vs) (hk : 2 ≤ k) (hC : m * F ≤ C)
    (hR : ∀ (a' : SA) (σ' : AH O), Rd σ' es a' m vs → Own σ.next σ' el a' → σ'.next = σ.next + k → Ext σ σ' → (∀ b o e, a' = .loc b o e → b = σ.next ∨ b = σ.next + 1) → Ok (K (.sl a' m, σ')) Q) :
    Ok ((AH.rdSl ((σ.bump k).put σ.next (.cells true el [])) a2 m es).bind fun new => bif Nat.ble ((0 + m) * F) C then (AH.appSl ((σ.bump k).put σ.next (.cells true el [])) (σ.next + 1) el es (.loc σ.next 0 es) 0 m new).bind K else none) Q := by
  have e0 : Ext σ ((σ.bump k).put σ.next (.cells true el [])) := ((Ext.refl σ).bump k).put (Nat.le_refl _) _
  have r0 : Rd ((σ.bump k).put σ.next (.cells true el [])) es (.loc σ.next 0 es) 0 [] := Rd.new (el := el) (by simp; omega) (by simp) (by simp)
  refine appS_bind (base := σ.next) r0 ⟨Nat.le_refl _, [], by simp⟩ (h2.ext e0) (by omega) (by simp; omega) (by intro o e he; injection he; omega) (by rw [Nat.zero_add]; exact hC) fun a1 σ1 q1 q2 q3 q4 q5 => ?_
  rw [Nat.zero_add] at q1 ⊢
  rw [List.nil_append] at q1
  refine hR a1 σ1 q1 q2 q3 ⟨by rw [q3]; exact e0.next, fun b hb => ?_⟩ fun b o e he => .inr (q5 b o e he)
  rw [q4 b (by omega) (by intro o e he; injection he; omega)]
  exact e0.blk b hb

/-- an element of one cell -/
theorem Rd.get1 {σ : AH O} {n : Nat} {a : SA} {cs : List AV} (h : Rd σ 1 a n cs) {i : Nat} {v : AV} (hv : cs[i]? = some v) {Q : AV → Prop} (hQ : Q v) : Ok (SA.ref a) fun q => Ok (σ.ld q.1 (q.2 + i * 1)) Q := by
  have hi : i < n := by
    have := (List.getElem?_eq_some_iff.1 hv).1
    rw [h.len] at this; omega
  obtain ⟨b, o, rfl, h2⟩ := h.ref hi
  refine Ok_some.2 ?_
  have := h2 0 (by omega)
  rw [Nat.mul_one, Nat.add_zero, Nat.add_zero, hv] at this
  exact Ok_of (by simpa using this) hQ

theorem Rd.ld1 {σ : AH O} {n : Nat} {a : SA} {cs : List AV} (h : Rd σ 1 a n cs) {i : Nat} {v : AV} (hv : cs[i]? = some v) {B : Type} (f : AV → Option B) : ((SA.ref a).bind fun q => (σ.ld q.1 (q.2 + i * 1)).bind f) = f v := by
  have hi : i < n := by
    have := (List.getElem?_eq_some_iff.1 hv).1
    rw [h.len] at this; omega
  obtain ⟨b, o, rfl, h2⟩ := h.ref hi
  have := h2 0 (by omega)
  rw [Nat.mul_one, Nat.add_zero, Nat.add_zero, hv] at this
  simp only [SA.ref, Option.bind_some, Nat.mul_one]
  rw [this]; rfl

/-- what is written in one's own block -/
theorem Rd.set1 {σ : AH O} {base el n : Nat} {a : SA} {cs : List AV} (h : Rd σ 1 a n cs) (ho : Own base σ el a) {i : Nat} (hi : i < n) (v : AV) {R : AH O → Prop}
    (hR : ∀ σ' : AH O, Rd σ' 1 a n (cs.set i v) → Own base σ' el a → σ'.next = σ.next → (∀ b, (∀ o e, a ≠ .loc b o e) → σ'.blk b = σ.blk b) → R σ') : Ok (SA.ref a) fun q => Ok (σ.st q.1 (q.2 + i * 1) [v]) R := by
  have hw := h.wh
  have hl := h.len
  cases a with
  | loc b o es =>
    obtain ⟨rfl, hb, ow, el', all, h3, h4, h5⟩ := hw
    obtain ⟨g1, all', g2⟩ := ho
    rw [g2] at h3; cases h3
    refine Ok_some.2 ?_
    have hc : Nat.ble (o + i * 1 + [v].length) all.length = true := Nat.ble_eq_true_of_le (by simp; omega)
    simp only [AH.st, g2, hc, cond_true]
    have hset : all.take (o + i * 1) ++ [v] ++ all.drop (o + i * 1 + [v].length) = all.set (o + i) v := by
      rw [List.set_eq_take_append_cons_drop, if_pos (by omega)]
      simp
    rw [hset]
    refine Ok_some.2 (hR _ ⟨by simp [hl], rfl, hb, true, el, _, by simp; rfl, by simp; omega, ?_⟩ ⟨g1, _, by simp; rfl⟩ rfl fun q hq => ?_)
    · rw [h5]
      rw [List.drop_set, if_neg (by omega), List.take_set]
      congr 1; omega
    · have : q ≠ b := fun e => hq o 1 (by rw [e])
      simp [this]
  | nil => obtain ⟨rfl, _⟩ := hw; omega
  | z => obtain ⟨rfl, _⟩ := hw; omega

theorem Rd.set1_bind {σ : AH O} {base el n : Nat} {a : SA} {cs : List AV} (h : Rd σ 1 a n cs) (ho : Own base σ el a) {i : Nat} (hi : i < n) (v : AV) {B : Type} {K : AH O → Option B} {Q : B → Prop}
    (hR : ∀ σ' : AH O, Rd σ' 1 a n (cs.set i v) → Own base σ' el a → σ'.next = σ.next → (∀ b, (∀ o e, a ≠ .loc b o e) → σ'.blk b = σ.blk b) → Ok (K σ') Q) : Ok ((SA.ref a).bind fun q => (σ.st q.1 (q.2 + i * 1) [v]).bind K) Q := by
  rw [Ok_bind]
  refine (Rd.set1 (R := fun r => Ok (K r) Q) h ho hi v hR).mono fun q hq => ?_
  rw [Ok_bind]
  exact hq

/-- bytes -/
theorem bytes_ok : ∀ (l : List Int), asBytes (l.map (AV.i .u8)) = some (l.map fun x => UInt8.ofNat x.toNat)
  | [] => rfl
  | x :: l => by
    simp only [List.map_cons, asBytes]
    rw [bytes_ok l]; rfl
/-- bytes are the same just if the numbers are -/
theorem bytes_inj : ∀ {l l' : List Int}, (∀ x ∈ l, 0 ≤ x ∧ x < 256) → (∀ x ∈ l', 0 ≤ x ∧ x < 256) → (l.map fun x => UInt8.ofNat x.toNat) = (l'.map fun x => UInt8.ofNat x.toNat) → l = l'
  | [], [], _, _, _ => rfl
  | [], _ :: _, _, _, h => by simp at h
  | _ :: _, [], _, _, h => by simp at h
  | x :: l, y :: l', h1, h2, h => by
    simp only [List.map_cons, List.cons.injEq] at h
    have hx := h1 x List.mem_cons_self
    have hy := h2 y List.mem_cons_self
    have e := congrArg UInt8.toNat h.1
    simp only [UInt8.toNat_ofNat'] at e
    rw [bytes_inj (fun z hz => h1 z (List.mem_cons_of_mem _ hz)) (fun z hz => h2 z (List.mem_cons_of_mem _ hz)) h.2]
    congr 1; omega

end Go.Abs
