/-
  AbsSl: slices in proofs about what is run: reading, appending, writing; what is never written again.
-/
import Derived.Test.YtlgnboohmahbaaaGreatAbsSim
import Derived.Test.YtlgnboohmahbaaaGreatAbsFrz
set_option linter.unusedVariables false
set_option linter.unusedSimpArgs false
set_option linter.constructorNameAsVariable false
namespace Go.Abs
open Go
variable {O : Type}
structure Chg (L : List Nat) (σ σ' : AH O) : Prop where
 next : σ.next ≤ σ'.next
 blk : ∀ b, b < σ.next → b ∉ L → σ'.blk b = σ.blk b
theorem Chg.refl (L : List Nat) (σ : AH O) : Chg L σ σ := ⟨Nat.le_refl _, fun _ _ _ => rfl⟩
theorem Chg.trans {L : List Nat} {σ σ' σ'' : AH O} (h : Chg L σ σ') (h' : Chg L σ' σ'') : Chg L σ σ'' :=
 ⟨Nat.le_trans h.next h'.next, fun b hb hf => (h'.blk b (Nat.lt_of_lt_of_le hb h.next) hf).trans (h.blk b hb hf)⟩
theorem Chg.mono {L L' : List Nat} {σ σ' : AH O} (h : Chg L σ σ') (hf : ∀ b ∈ L, b ∈ L' ∨ σ.next ≤ b) : Chg L' σ σ' := ⟨h.next, fun b hb hn => h.blk b hb fun h' => by rcases hf b h' with q | q; exact hn q; omega⟩
theorem Chg.ext {σ σ' : AH O} (h : Chg [] σ σ') : Ext σ σ' := ⟨h.next, fun b hb => h.blk b hb (by simp)⟩
theorem Chg.put {L : List Nat} {σ σ' : AH O} (h : Chg L σ σ') {b : Nat} (hb : b ∈ L ∨ σ.next ≤ b) (x : Blk O) : Chg L σ (σ'.put b x) :=
 ⟨h.next, fun c hc hf => by
  rw [put_blk, if_neg (fun e => by subst e; rcases hb with hb | hb; exact hf hb; omega)]
  exact h.blk c hc hf⟩
theorem Chg.bump {L : List Nat} {σ σ' : AH O} (h : Chg L σ σ') (k : Nat) : Chg L σ (σ'.bump k) := ⟨by simp; have := h.next; omega, h.blk⟩
def AH.cs (σ : AH O) : Bid → Option (List AV)
 | .n b => match σ.blk b with | some (.cells _ _ cs) => some cs | _ => none
 | .f cs => some cs
theorem ld_cs {σ : AH O} {b : Bid} {o : Nat} : σ.ld b o = (σ.cs b).bind (·[o]?) := by
 cases b with
 | n b =>
  simp only [AH.ld, AH.cs]
  cases σ.blk b with
  | none => rfl
  | some x => cases x <;> rfl
 | f cs => rfl
def SA.bk : SA → List Nat | .loc (.n b) _ _ => [b] | _ => []
structure Rd (σ : AH O) (es : Nat) (a : SA) (n : Nat) (cs : List AV) : Prop where
 len : cs.length = n * es
 wh : match a with
  | .loc b o es' => es' = es ∧ ∃ all, σ.cs b = some all ∧ o + n * es ≤ all.length ∧ cs = (all.drop o).take (n * es)
  | .ar _ _ _ => False
  | _ => n = 0 ∧ cs = []
def Imm (es : Nat) (a : SA) (n : Nat) (cs : List AV) : Prop := ∀ (O : Type) (σ : AH O), Rd σ es a n cs
structure OwnS (σ : AH O) (el es : Nat) (a : SA) (n : Nat) (cs : List AV) : Prop where
 len : cs.length = n * es
 wh : match a with
  | .loc b o e => ∃ k, b = .n k ∧ o = 0 ∧ e = es ∧ σ.blk k = some (.cells true el cs) ∧ k < σ.next
  | .ar _ _ _ => False
  | _ => n = 0
theorem Rd.of {σ σ' : AH O} {es n : Nat} {a : SA} {cs : List AV} (h : Rd σ es a n cs) (hb : ∀ b ∈ SA.bk a, σ'.blk b = σ.blk b) : Rd σ' es a n cs := by
 refine ⟨h.len, ?_⟩
 have h2 := h.wh
 cases a with
 | ar => exact h2.elim
 | loc b o e =>
  obtain ⟨h1, all, h2, h3⟩ := h2
  refine ⟨h1, all, ?_, h3⟩
  cases b with
  | n b => rw [← h2]; simp only [AH.cs]; rw [hb b (by simp [SA.bk])]
  | f cs => exact h2
 | nil => exact h2
 | z => exact h2
theorem Rd.old {σ : AH O} {es n : Nat} {a : SA} {cs : List AV} (h : Rd σ es a n cs) (hw : ∀ b, σ.next ≤ b → σ.blk b = none) : ∀ b ∈ SA.bk a, b < σ.next := fun b hb => by
 have h2 := h.wh
 match a, hb, h2 with
 | .loc (.n c) o e, hb, h2 =>
  obtain ⟨h1, all, h3, _⟩ := h2
  simp only [SA.bk, List.mem_singleton] at hb
  subst hb
  rcases Nat.lt_or_ge b σ.next with hh | hh
  ·exact hh
  ·simp only [AH.cs, hw b hh] at h3; cases h3
theorem Imm.nil (es : Nat) : Imm es .nil 0 [] := fun _ _ => ⟨by simp, rfl, rfl⟩
theorem Imm.z (es : Nat) : Imm es .z 0 [] := fun _ _ => ⟨by simp, rfl, rfl⟩
theorem Imm.f {es n : Nat} {cs : List AV} (h : cs.length = n * es) : Imm es (.loc (.f cs) 0 es) n cs := fun _ _ => ⟨h, rfl, cs, rfl, by omega, by rw [List.drop_zero, List.take_of_length_le (by omega)]⟩
theorem Imm.len {es n : Nat} {a : SA} {cs : List AV} (h : Imm es a n cs) : cs.length = n * es := (h Unit ⟨fun _ => none, 0⟩).len
theorem Imm.bk {es n : Nat} {a : SA} {cs : List AV} (h : Imm es a n cs) : SA.bk a = [] := by
 match a with
 | .nil => rfl
 | .z => rfl
 | .ar _ _ _ => exact ((h Unit ⟨fun _ => none, 0⟩).wh).elim
 | .loc (.f _) _ _ => rfl
 | .loc (.n b) o e =>
  obtain ⟨_, _, all, h1, _⟩ := h Unit ⟨fun _ => none, 0⟩
  simp [AH.cs] at h1
theorem OwnS.of {σ σ' : AH O} {el es n : Nat} {a : SA} {cs : List AV} (h : OwnS σ el es a n cs) (hn : σ.next ≤ σ'.next) (hb : ∀ b ∈ SA.bk a, σ'.blk b = σ.blk b) : OwnS σ' el es a n cs := by
 refine ⟨h.len, ?_⟩
 have h2 := h.wh
 cases a with
 | ar => exact h2.elim
 | loc b o e =>
  obtain ⟨k, rfl, rfl, rfl, h3, h4⟩ := h2
  exact ⟨k, rfl, rfl, rfl, by rw [hb k (by simp [SA.bk])]; exact h3, Nat.lt_of_lt_of_le h4 hn⟩
 | nil => exact h2
 | z => exact h2
theorem OwnS.lt {σ : AH O} {el es n : Nat} {a : SA} {cs : List AV} (h : OwnS σ el es a n cs) : ∀ b ∈ SA.bk a, b < σ.next := fun b hb => by
 have h2 := h.wh
 match a, hb, h2 with
 | .loc (.n c) o e, hb, h2 =>
  obtain ⟨k, e1, _, _, _, h4⟩ := h2
  cases e1
  simp only [SA.bk, List.mem_singleton] at hb
  subst hb; exact h4
theorem OwnS.nil (σ : AH O) (el es : Nat) : OwnS σ el es .nil 0 [] := ⟨by simp, rfl⟩
theorem OwnS.z (σ : AH O) (el es : Nat) : OwnS σ el es .z 0 [] := ⟨by simp, rfl⟩
theorem OwnS.new {σ : AH O} {el es n b : Nat} {cs : List AV} (hl : cs.length = n * es) (h : σ.blk b = some (.cells true el cs)) (hb : b < σ.next) : OwnS σ el es (.loc (.n b) 0 es) n cs := ⟨hl, b, rfl, rfl, rfl, h, hb⟩
theorem OwnS.loc {σ : AH O} {el es n : Nat} {a : SA} {cs : List AV} (h : OwnS σ el es a n cs) (hn : n ≠ 0) : ∃ k, a = .loc (.n k) 0 es ∧ σ.blk k = some (.cells true el cs) ∧ k < σ.next := by
 have h2 := h.wh
 cases a with
 | ar => exact h2.elim
 | loc b o e => obtain ⟨k, rfl, rfl, rfl, h3, h4⟩ := h2; exact ⟨k, rfl, h3, h4⟩
 | nil => exact absurd h2 hn
 | z => exact absurd h2 hn
theorem Rd.rdSl {σ : AH O} {es n : Nat} {a : SA} {cs : List AV} (h : Rd σ es a n cs) : σ.rdSl a n es = some cs := by
 have h2 := h.wh
 cases a with
 | ar => exact h2.elim
 | loc b o es' =>
  obtain ⟨rfl, all, h3, h4, h5⟩ := h2
  simp only [AH.rdSl]
  have hb : Nat.ble (o + n * es') all.length = true := Nat.ble_eq_true_of_le h4
  cases b with
  | n b =>
   simp only [AH.cs] at h3
   split at h3
   ·rename_i hx
    cases h3
    simp only [AH.ldN, hx, hb, h5, cond_true]
   ·cases h3
  | f c => cases h3; simp only [AH.ldN, hb, h5, cond_true]
 | nil => obtain ⟨rfl, rfl⟩ := h2; rfl
 | z => obtain ⟨rfl, rfl⟩ := h2; rfl
theorem Rd.ref {σ : AH O} {es n : Nat} {a : SA} {cs : List AV} (h : Rd σ es a n cs) {i : Nat} (hi : i < n) : ∃ b o, a = .loc b o es ∧ ∀ j, j < es → σ.ld b (o + i * es + j) = cs[i * es + j]? := by
 have h2 := h.wh
 cases a with
 | ar => exact h2.elim
 | loc b o es' =>
  obtain ⟨rfl, all, h3, h4, h5⟩ := h2
  refine ⟨b, o, rfl, fun j hj => ?_⟩
  have h6 : i * es' + j < n * es' := by
   have : (i + 1) * es' ≤ n * es' := Nat.mul_le_mul_right _ hi
   rw [Nat.succ_mul] at this; omega
  rw [ld_cs, h3, h5]
  simp only [Option.bind_some]
  rw [List.getElem?_take, if_pos h6, List.getElem?_drop]
  congr 1; omega
 | nil => obtain ⟨rfl, _⟩ := h2; omega
 | z => obtain ⟨rfl, _⟩ := h2; omega
theorem Rd.adv {σ : AH O} {es n lo m : Nat} {a : SA} {cs : List AV} (h : Rd σ es a n cs) (hm : lo + m ≤ n) : ∃ a', a.adv lo es = some a' ∧ Rd σ es a' m ((cs.drop (lo * es)).take (m * es)) ∧ SA.bk a' = SA.bk a := by
 have h2 := h.wh
 have hl := h.len
 have hle : lo * es + m * es ≤ n * es := by rw [← Nat.add_mul]; exact Nat.mul_le_mul_right _ hm
 cases a with
 | ar => exact h2.elim
 | loc b o es' =>
  obtain ⟨rfl, all, h3, h4, h5⟩ := h2
  refine ⟨.loc b (o + lo * es') es', s_adv, ⟨by simp [hl]; omega, rfl, all, h3, by omega, ?_⟩, by cases b <;> rfl⟩
  rw [h5]
  rw [List.drop_take, List.take_take, List.drop_drop]
  congr 1; omega
 | nil =>
  obtain ⟨rfl, rfl⟩ := h2
  have : m = 0 := by omega
  subst this
  exact ⟨.nil, rfl, ⟨by simp, rfl, by simp⟩, rfl⟩
 | z =>
  obtain ⟨rfl, rfl⟩ := h2
  have : m = 0 := by omega
  subst this
  exact ⟨.z, rfl, ⟨by simp, rfl, by simp⟩, rfl⟩
theorem Imm.adv {es n lo m : Nat} {a : SA} {cs : List AV} (h : Imm es a n cs) (hm : lo + m ≤ n) : ∃ a', a.adv lo es = some a' ∧ Imm es a' m ((cs.drop (lo * es)).take (m * es)) := by
 obtain ⟨a', h1, h2, _⟩ := (h Unit ⟨fun _ => none, 0⟩).adv hm
 refine ⟨a', h1, fun O σ => ?_⟩
 obtain ⟨a2, g1, g2, _⟩ := (h O σ).adv hm
 rw [h1] at g1; cases g1; exact g2
structure Sls (σ : AH O) (el es : Nat) (L : List (SA × List AV)) : Prop where
 own : ∀ p ∈ L, ∃ n, OwnS σ el es p.1 n p.2
 apart : ∀ (i j : Nat) (p q : SA × List AV) (b : Nat), L[i]? = some p → L[j]? = some q → b ∈ SA.bk p.1 → b ∈ SA.bk q.1 → i = j
def sbk (L : List (SA × List AV)) : List Nat := L.flatMap fun p => SA.bk p.1
theorem mem_sbk {L : List (SA × List AV)} {b : Nat} : b ∈ sbk L ↔ ∃ p ∈ L, b ∈ SA.bk p.1 := by simp [sbk]
theorem Sls.lt {σ : AH O} {el es : Nat} {L : List (SA × List AV)} (h : Sls σ el es L) : ∀ b ∈ sbk L, b < σ.next := fun b hb => by
 obtain ⟨p, hp, hb⟩ := mem_sbk.1 hb
 obtain ⟨n, ho⟩ := h.own p hp
 exact ho.lt b hb
theorem Sls.of {σ σ' : AH O} {el es : Nat} {L : List (SA × List AV)} (h : Sls σ el es L) (hn : σ.next ≤ σ'.next) (hb : ∀ b ∈ sbk L, σ'.blk b = σ.blk b) : Sls σ' el es L :=
 ⟨fun p hp => by obtain ⟨n, ho⟩ := h.own p hp; exact ⟨n, ho.of hn fun b hb' => hb b (mem_sbk.2 ⟨p, hp, hb'⟩)⟩, h.apart⟩
theorem Sls.nil (σ : AH O) (el es : Nat) : Sls σ el es [] := ⟨fun p hp => (by cases hp), fun i j p q b h => by simp at h⟩
theorem Sls.set {σ σ' : AH O} {el es : Nat} {L : List (SA × List AV)} (h : Sls σ el es L) {i : Nat} {p p' : SA × List AV} (hi : L[i]? = some p) (hn : σ.next ≤ σ'.next)
  (hb : ∀ b ∈ sbk L, b ∉ SA.bk p.1 → σ'.blk b = σ.blk b) (ho : ∃ n, OwnS σ' el es p'.1 n p'.2) (hf : ∀ b ∈ SA.bk p'.1, b ∈ SA.bk p.1 ∨ b ∉ sbk L) : Sls σ' el es (L.set i p') := by
 have hlt := (List.getElem?_eq_some_iff.1 hi).1
 have key : ∀ (j : Nat) (q : SA × List AV), (L.set i p')[j]? = some q → (j = i ∧ q = p') ∨ (j ≠ i ∧ L[j]? = some q) := fun j q hq => by
  rw [List.getElem?_set] at hq
  split at hq
  ·rename_i hij; subst hij; simp at hq; exact .inl ⟨rfl, hq.symm⟩
  ·rename_i hij; exact .inr ⟨fun e => hij e.symm, hq⟩
 refine ⟨fun q hq => ?_, fun j k q r b hj hk hbq hbr => ?_⟩
 ·obtain ⟨j, hj⟩ := List.getElem?_of_mem hq
  rcases key j q hj with ⟨_, rfl⟩ | ⟨hji, hj⟩
  ·exact ho
  ·obtain ⟨n, ho⟩ := h.own q (List.mem_of_getElem? hj)
   exact ⟨n, ho.of hn fun b hb' => hb b (mem_sbk.2 ⟨q, List.mem_of_getElem? hj, hb'⟩) fun hp => hji (h.apart j i q p b hj hi hb' hp)⟩
 ·rcases key j q hj with ⟨e1, e2⟩ | ⟨hji, hj'⟩ <;> rcases key k r hk with ⟨e3, e4⟩ | ⟨hki, hk'⟩
  ·omega
  ·subst e1; subst e2
   rcases hf b hbq with g | g
   ·exact absurd (h.apart k j r p b hk' hi hbr g) hki
   ·exact absurd (mem_sbk.2 ⟨r, List.mem_of_getElem? hk', hbr⟩) g
  ·subst e3; subst e4
   rcases hf b hbr with g | g
   ·exact absurd (h.apart j k q p b hj' hi hbq g) hji
   ·exact absurd (mem_sbk.2 ⟨q, List.mem_of_getElem? hj', hbq⟩) g
  ·exact h.apart j k q r b hj' hk' hbq hbr
theorem fm_len {α : Type} {enc : α → List AV} {k : Nat} (hk : ∀ x, (enc x).length = k) : ∀ l : List α, (l.flatMap enc).length = l.length * k
 | [] => by simp
 | x :: l => by simp only [List.flatMap_cons, List.length_append, hk, fm_len hk l, List.length_cons, Nat.succ_mul]; omega
theorem fm_get {α : Type} {enc : α → List AV} {k : Nat} (hk : ∀ x, (enc x).length = k) : ∀ (l : List α) (i j : Nat), j < k → (l.flatMap enc)[i * k + j]? = (l[i]?).bind fun x => (enc x)[j]?
 | [], i, j, hj => by simp
 | x :: l, 0, j, hj => by
  simp only [List.flatMap_cons, Nat.zero_mul, Nat.zero_add, List.getElem?_cons_zero, Option.bind_some]
  rw [List.getElem?_append_left (by rw [hk]; exact hj)]
 | x :: l, i + 1, j, hj => by
  simp only [List.flatMap_cons, List.getElem?_cons_succ]
  rw [Nat.succ_mul, List.getElem?_append_right (by rw [hk]; omega), hk, show i * k + k + j - k = i * k + j by omega]
  exact fm_get hk l i j hj
theorem fm_get' {α : Type} {enc : α → List AV} {k : Nat} (hk : ∀ x, (enc x).length = k) {l : List α} {i j : Nat} (hj : j < k) {x : α} (hx : l[i]? = some x) : (l.flatMap enc)[i * k + j]? = (enc x)[j]? := by
 rw [fm_get hk l i j hj, hx]; rfl
theorem Imm.row {α : Type} {enc : α → List AV} {k n : Nat} (hk : ∀ x, (enc x).length = k) {a : SA} {l : List α} (h : Imm k a n (l.flatMap enc)) {i : Nat} {x : α} (hx : l[i]? = some x) (hk0 : 0 < k) :
  ∃ b o, a = .loc b o k ∧ ∀ (O : Type) (σ : AH O) (j : Nat), j < k → σ.ld b (o + i * k + j) = (enc x)[j]? := by
 have hi : i < n := by
  have h1 := h.len
  rw [fm_len hk] at h1
  have h2 := Nat.eq_of_mul_eq_mul_right hk0 h1
  have := (List.getElem?_eq_some_iff.1 hx).1
  omega
 obtain ⟨b, o, rfl, _⟩ := (h Unit ⟨fun _ => none, 0⟩).ref hi
 refine ⟨b, o, rfl, fun O σ j hj => ?_⟩
 obtain ⟨b', o', e, h2⟩ := (h O σ).ref hi
 cases e
 rw [h2 j hj, fm_get' hk hj hx]
def FZ (d : Nat) (H : Nat → Option (Blk O)) (L : List Nat) (v v' : AV) : Prop :=
 ∀ σ : AH O, (∀ b ∈ L, σ.blk b = H b) → ∃ σ', frzV d σ v = some (v', σ') ∧ σ'.next = σ.next ∧ ∀ b, σ'.blk b = if b ∈ L then none else σ.blk b
def FZL (d : Nat) (H : Nat → Option (Blk O)) (L : List Nat) (vs vs' : List AV) : Prop :=
 ∀ σ : AH O, (∀ b ∈ L, σ.blk b = H b) → ∃ σ', frzL (frzV d) vs σ = some (vs', σ') ∧ σ'.next = σ.next ∧ ∀ b, σ'.blk b = if b ∈ L then none else σ.blk b
theorem frzV_sl {d : Nat} {σ : AH O} {b o es n : Nat} : frzV (d + 1) σ (.sl (.loc (.n b) o es) n) = match σ.blk b with
   | some (.cells true _ cs) => bif Nat.ble (o + n * es) cs.length then (frzL (frzV d) ((cs.drop o).take (n * es)) (σ.kill b)).bind fun r => some (.sl (.loc (.f r.1) 0 es) n, r.2) else none
   | _ => none := rfl
theorem FZL.nil {d : Nat} {H : Nat → Option (Blk O)} : FZL d H [] [] [] := fun σ _ => ⟨σ, rfl, rfl, fun b => by simp⟩
theorem FZL.cons {d : Nat} {H : Nat → Option (Blk O)} {L1 L2 : List Nat} {v v' : AV} {vs vs' : List AV} (h1 : FZ d H L1 v v') (h2 : FZL d H L2 vs vs') (hd : ∀ b ∈ L1, b ∉ L2) : FZL d H (L1 ++ L2) (v :: vs) (v' :: vs') := fun σ hσ => by
 obtain ⟨σ1, e1, n1, b1⟩ := h1 σ fun b hb => hσ b (by simp [hb])
 obtain ⟨σ2, e2, n2, b2⟩ := h2 σ1 fun b hb => by rw [b1, if_neg (fun h => hd b h hb)]; exact hσ b (by simp [hb])
 refine ⟨σ2, by simp only [frzL, e1, e2, Option.bind_some], by omega, fun b => ?_⟩
 rw [b2, b1]
 by_cases g1 : b ∈ L1 <;> by_cases g2 : b ∈ L2 <;> simp [g1, g2]
theorem FZL.append {d : Nat} {H : Nat → Option (Blk O)} {L1 L2 : List Nat} {us us' vs vs' : List AV} (h1 : FZL d H L1 us us') (h2 : FZL d H L2 vs vs') (hd : ∀ b ∈ L1, b ∉ L2) : FZL d H (L1 ++ L2) (us ++ vs) (us' ++ vs') := fun σ hσ => by
 have app : ∀ (us : List AV) (us' : List AV) (σ σ1 σ2 : AH O), frzL (frzV d) us σ = some (us', σ1) → frzL (frzV d) vs σ1 = some (vs', σ2) → frzL (frzV d) (us ++ vs) σ = some (us' ++ vs', σ2) := by
  intro us
  induction us with
  | nil => intro us' σ σ1 σ2 e1 e2; cases e1; exact e2
  | cons u us ih =>
   intro us' σ σ1 σ2 e1 e2
   simp only [frzL] at e1
   obtain ⟨⟨u1, s1⟩, g1, e1⟩ := Option.bind_eq_some_iff.1 e1
   obtain ⟨⟨us1, s2⟩, g2, e1⟩ := Option.bind_eq_some_iff.1 e1
   cases e1
   simp only [List.cons_append, frzL, g1, ih _ _ _ _ g2 e2, Option.bind_some]
 obtain ⟨σ1, e1, n1, b1⟩ := h1 σ fun b hb => hσ b (by simp [hb])
 obtain ⟨σ2, e2, n2, b2⟩ := h2 σ1 fun b hb => by rw [b1, if_neg (fun h => hd b h hb)]; exact hσ b (by simp [hb])
 refine ⟨σ2, app _ _ _ _ _ e1 e2, by omega, fun b => ?_⟩
 rw [b2, b1]
 by_cases g1 : b ∈ L1 <;> by_cases g2 : b ∈ L2 <;> simp [g1, g2]
theorem FZ.sl {d : Nat} {σ : AH O} {H : Nat → Option (Blk O)} {L : List Nat} {el es n : Nat} {a : SA} {cs cs' : List AV} (h : OwnS σ el es a n cs) (hH : ∀ b ∈ SA.bk a, H b = σ.blk b) (hc : FZL (d + 1) H L cs cs') (hl : cs'.length = cs.length) (hd : ∀ b ∈ SA.bk a, b ∉ L) : ∃ a', FZ (d + 2) H (SA.bk a ++ L) (.sl a n) (.sl a' n) ∧ Imm es a' n cs' := by
 have hw := h.wh
 have hlen := h.len
 have nz : n = 0 → cs = [] := fun e => by subst e; exact List.eq_nil_of_length_eq_zero (by simpa using hlen)
 have e0 : n = 0 → cs' = [] := fun e => by rw [nz e] at hl; exact List.eq_nil_of_length_eq_zero (by simpa using hl)
 have zero : ∀ a : SA, SA.bk a = [] → (a = .nil ∨ a = .z) → n = 0 → FZ (d + 2) H (SA.bk a ++ L) (.sl a n) (.sl a n) := fun a hb ha hn σ1 hσ => by
  have h0 := nz hn
  subst h0
  obtain ⟨σ', e1, n1, b1⟩ := hc σ1 (fun b hb' => hσ b (by simp [hb']))
  simp only [frzL, Option.some.injEq, Prod.mk.injEq] at e1
  obtain ⟨_, rfl⟩ := e1
  refine ⟨σ1, ?_, rfl, fun b => by rw [hb, List.nil_append]; exact b1 b⟩
  rcases ha with rfl | rfl <;> rfl
 cases a with
 | ar => exact hw.elim
 | loc b o e =>
  obtain ⟨k, rfl, rfl, rfl, h3, h4⟩ := hw
  refine ⟨.loc (.f cs') 0 e, fun σ1 hσ => ?_, Imm.f (by rw [hl]; exact hlen)⟩
  have hk : σ1.blk k = some (.cells true el cs) := by rw [hσ k (by simp [SA.bk]), hH k (by simp [SA.bk])]; exact h3
  obtain ⟨σ', e1, n1, b1⟩ := hc (σ1.kill k) fun b hb => by
   have : b ≠ k := fun e => hd k (by simp [SA.bk]) (e ▸ hb)
   rw [kill_blk, if_neg this]; exact hσ b (by simp [hb])
  refine ⟨σ', ?_, by simpa using n1, fun b => ?_⟩
  ·rw [frzV_sl, hk]
   simp only
   rw [Nat.ble_eq_true_of_le (by omega), cond_true, List.drop_zero, List.take_of_length_le (by omega), e1]; rfl
  ·rw [b1, kill_blk]
   by_cases g1 : b = k <;> by_cases g2 : b ∈ L <;> simp [SA.bk, g1, g2]
 | nil => exact ⟨.nil, zero .nil rfl (.inl rfl) hw, by have hw : n = 0 := hw; subst hw; rw [e0 rfl]; exact Imm.nil es⟩
 | z => exact ⟨.z, zero .z rfl (.inr rfl) hw, by have hw : n = 0 := hw; subst hw; rw [e0 rfl]; exact Imm.z es⟩
theorem FZ.agg {d : Nat} {H : Nat → Option (Blk O)} {L : List Nat} {vs vs' : List AV} (h : FZL d H L vs vs') : FZ (d + 1) H L (.agg vs) (.agg vs') := fun σ hσ => by
 obtain ⟨σ', e, n, b⟩ := h σ hσ
 exact ⟨σ', by simp only [frzV, e, Option.bind_some], n, b⟩
theorem FZ.tup {d : Nat} {H : Nat → Option (Blk O)} {L : List Nat} {vs vs' : List AV} (h : FZL d H L vs vs') : FZ (d + 1) H L (.tup vs) (.tup vs') := fun σ hσ => by
 obtain ⟨σ', e, n, b⟩ := h σ hσ
 exact ⟨σ', by simp only [frzV, e, Option.bind_some], n, b⟩
end Go.Abs
