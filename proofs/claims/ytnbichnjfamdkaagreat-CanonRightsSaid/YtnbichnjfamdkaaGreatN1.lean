/-
  Trees of plain data: what stands for them in a heap, frozen or owned. No conditions.
-/
import Derived.Test.YtnbichnjfamdkaaGreatAbsSl
set_option linter.unusedVariables false
set_option linter.unusedSimpArgs false
set_option linter.constructorNameAsVariable false
namespace Go.Abs
open Go
variable {O : Type}
structure OwnP (σ : AH O) (el es : Nat) (a : SA) (n : Nat) (cs : List AV) : Prop where
 len : cs.length = n * es
 wh : match a with
  | .loc b o e => ∃ k rest, b = .n k ∧ o = 0 ∧ e = es ∧ σ.blk k = some (.cells true el (cs ++ rest)) ∧ k < σ.next
  | .ar _ _ _ => False
  | _ => n = 0
theorem OwnS.p {σ : AH O} {el es n : Nat} {a : SA} {cs : List AV} (h : OwnS σ el es a n cs) : OwnP σ el es a n cs := by
 refine ⟨h.len, ?_⟩
 have h2 := h.wh
 cases a with
 | loc b o e => obtain ⟨k, h1, h2, h3, h4, h5⟩ := h2; exact ⟨k, [], h1, h2, h3, by rw [List.append_nil]; exact h4, h5⟩
 | nil => exact h2
 | z => exact h2
 | ar => exact h2.elim
theorem OwnP.rd {σ : AH O} {el es : Nat} {a : SA} {n : Nat} {cs : List AV} (h : OwnP σ el es a n cs) : Rd σ es a n cs := by
 refine ⟨h.len, ?_⟩
 have h2 := h.wh
 have hl := h.len
 cases a with
 | loc b o e =>
  obtain ⟨k, rest, rfl, rfl, rfl, h3, _⟩ := h2
  exact ⟨rfl, cs ++ rest, by simp only [AH.cs, h3], by simp; omega, by rw [List.drop_zero, ← hl, List.take_left]⟩
 | nil => have h2 : n = 0 := h2; subst h2; exact ⟨rfl, List.eq_nil_of_length_eq_zero (by simpa using hl)⟩
 | z => have h2 : n = 0 := h2; subst h2; exact ⟨rfl, List.eq_nil_of_length_eq_zero (by simpa using hl)⟩
 | ar => exact h2.elim
theorem OwnP.of {σ σ' : AH O} {el es n : Nat} {a : SA} {cs : List AV} (h : OwnP σ el es a n cs) (hn : σ.next ≤ σ'.next) (hb : ∀ b ∈ SA.bk a, σ'.blk b = σ.blk b) : OwnP σ' el es a n cs := by
 refine ⟨h.len, ?_⟩
 have h2 := h.wh
 cases a with
 | loc b o e =>
  obtain ⟨k, rest, rfl, rfl, rfl, h3, h4⟩ := h2
  exact ⟨k, rest, rfl, rfl, rfl, by rw [hb k (by simp [SA.bk])]; exact h3, Nat.lt_of_lt_of_le h4 hn⟩
 | nil => exact h2
 | z => exact h2
 | ar => exact h2.elim
theorem OwnP.lt {σ : AH O} {el es n : Nat} {a : SA} {cs : List AV} (h : OwnP σ el es a n cs) : ∀ b ∈ SA.bk a, b < σ.next := fun b hb => by
 have h2 := h.wh
 match a, hb, h2 with
 | .loc (.n c) o e, hb, h2 =>
  obtain ⟨k, _, e1, _, _, _, h4⟩ := h2
  cases e1
  simp only [SA.bk, List.mem_singleton] at hb
  subst hb; exact h4
theorem OwnP.loc {σ : AH O} {el es n : Nat} {a : SA} {cs : List AV} (h : OwnP σ el es a n cs) (hn : n ≠ 0) : ∃ k rest, a = .loc (.n k) 0 es ∧ σ.blk k = some (.cells true el (cs ++ rest)) ∧ k < σ.next := by
 have h2 := h.wh
 cases a with
 | loc b o e => obtain ⟨k, rest, rfl, rfl, rfl, h3, h4⟩ := h2; exact ⟨k, rest, rfl, h3, h4⟩
 | nil => exact absurd h2 hn
 | z => exact absurd h2 hn
 | ar => exact h2.elim
theorem OwnP.new {σ : AH O} {el es n b : Nat} {cs rest : List AV} (hl : cs.length = n * es) (h : σ.blk b = some (.cells true el (cs ++ rest))) (hb : b < σ.next) : OwnP σ el es (.loc (.n b) 0 es) n cs := ⟨hl, b, rest, rfl, rfl, rfl, h, hb⟩
theorem app_okP {σ : AH O} {nid el es n m : Nat} {a : SA} {cs new : List AV} (h : OwnP σ el es a n cs) (hne : nid ∉ SA.bk a) (hlt : nid < σ.next) (hm : new.length = m * es) :
  Ok (σ.appSl nid el es a n m new) fun r => ∃ a', r.1 = .sl a' (n + m) ∧ OwnP r.2 el es a' (n + m) (cs ++ new) ∧ r.2.next = σ.next ∧ (∀ b, b ≠ nid → b ∉ SA.bk a → r.2.blk b = σ.blk b) ∧ ∀ b ∈ SA.bk a', b = nid := by
 have hw := h.wh
 have hl := h.len
 have hmul : (n + m) * es = n * es + m * es := Nat.add_mul _ _ _
 cases a with
 | loc b o es' =>
  obtain ⟨k, rest, rfl, rfl, rfl, h3, h4⟩ := hw
  have hc : (Nat.beq el el && Nat.ble (0 + n * es') (cs ++ rest).length) = true := by
   rw [s_beq, Bool.true_and]; exact Nat.ble_eq_true_of_le (by simp; omega)
  simp only [AH.appSl, h3, hc, cond_true]
  have ht : ((cs ++ rest).drop 0).take (n * es') = cs := by rw [List.drop_zero, ← hl, List.take_left]
  rw [ht]
  refine Ok_some.2 ⟨_, rfl, OwnP.new (rest := []) (by simp [hl, hm, hmul]) (by simp) hlt, rfl, fun q hq hq' => ?_, fun b hb' => by simpa [SA.bk] using hb'⟩
  have : q ≠ k := fun e => hq' (by simp [SA.bk, e])
  simp [hq, this]
 | ar => exact hw.elim
 | nil =>
  have hS : OwnS σ el es .nil n cs := ⟨hl, hw⟩
  exact (app_ok hS hne hlt hm).mono fun r ⟨a', g1, g2, g3, g4, g5⟩ => ⟨a', g1, g2.p, g3, g4, g5⟩
 | z =>
  have hS : OwnS σ el es .z n cs := ⟨hl, hw⟩
  exact (app_ok hS hne hlt hm).mono fun r ⟨a', g1, g2, g3, g4, g5⟩ => ⟨a', g1, g2.p, g3, g4, g5⟩
theorem FZ.slP {d : Nat} {σ : AH O} {H : Nat → Option (Blk O)} {L : List Nat} {el es n : Nat} {a : SA} {cs cs' : List AV} (h : OwnP σ el es a n cs) (hH : ∀ b ∈ SA.bk a, H b = σ.blk b) (hc : FZL (d + 1) H L cs cs') (hl : cs'.length = cs.length) (hd : ∀ b ∈ SA.bk a, b ∉ L) : ∃ a', FZ (d + 2) H (SA.bk a ++ L) (.sl a n) (.sl a' n) ∧ Imm es a' n cs' := by
 have hw := h.wh
 have hlen := h.len
 cases a with
 | loc b o e =>
  obtain ⟨k, rest, rfl, rfl, rfl, h3, h4⟩ := hw
  refine ⟨.loc (.f cs') 0 e, fun σ1 hσ => ?_, Imm.f (by rw [hl]; exact hlen)⟩
  have hk : σ1.blk k = some (.cells true el (cs ++ rest)) := by rw [hσ k (by simp [SA.bk]), hH k (by simp [SA.bk])]; exact h3
  obtain ⟨σ', e1, n1, b1⟩ := hc (σ1.kill k) fun b hb => by
   have : b ≠ k := fun e => hd k (by simp [SA.bk]) (e ▸ hb)
   rw [kill_blk, if_neg this]; exact hσ b (by simp [hb])
  refine ⟨σ', ?_, by simpa using n1, fun b => ?_⟩
  ·rw [frzV_sl, hk]
   simp only
   rw [Nat.ble_eq_true_of_le (by simp; omega), cond_true, List.drop_zero, ← hlen, List.take_left, e1]; rfl
  ·rw [b1, kill_blk]
   by_cases g1 : b = k <;> by_cases g2 : b ∈ L <;> simp [SA.bk, g1, g2]
 | nil => exact FZ.sl (σ := σ) (el := el) ⟨hlen, hw⟩ hH hc hl hd
 | z => exact FZ.sl (σ := σ) (el := el) ⟨hlen, hw⟩ hH hc hl hd
 | ar => exact hw.elim
inductive TV where
 | lf (v : AV)
 | sl (el es n : Nat) (cs : List TV)
mutual
inductive Im : TV → AV → Prop
 | lf {v : AV} (h : v.flat = true) : Im (.lf v) v
 | sl {el es n : Nat} {cs : List TV} {a : SA} {vs : List AV} (h : Imm es a n vs) (hc : ImL cs vs) : Im (.sl el es n cs) (.sl a n)
inductive ImL : List TV → List AV → Prop
 | nil : ImL [] []
 | cons {t : TV} {v : AV} {ts : List TV} {vs : List AV} (h : Im t v) (hc : ImL ts vs) : ImL (t :: ts) (v :: vs)
end
mutual
inductive Ow (σ : AH O) : TV → AV → List Nat → Prop
 | im {t : TV} {v : AV} (h : Im t v) : Ow σ t v []
 | sl {el es n : Nat} {cs : List TV} {a : SA} {vs : List AV} {L : List Nat} (h : OwnP σ el es a n vs) (hc : OwL σ cs vs L) (hd : ∀ b ∈ SA.bk a, b ∉ L) : Ow σ (.sl el es n cs) (.sl a n) (SA.bk a ++ L)
inductive OwL (σ : AH O) : List TV → List AV → List Nat → Prop
 | nil : OwL σ [] [] []
 | cons {t : TV} {v : AV} {ts : List TV} {vs : List AV} {L1 L2 : List Nat} (h : Ow σ t v L1) (hc : OwL σ ts vs L2) (hd : ∀ b ∈ L1, b ∉ L2) : OwL σ (t :: ts) (v :: vs) (L1 ++ L2)
end
theorem Imm.flat {es n : Nat} {a : SA} {vs : List AV} (h : Imm es a n vs) : (AV.sl a n).flat = true := by
 have hb := h.bk
 match a, hb with
 | .nil, _ => rfl
 | .z, _ => rfl
 | .loc (.f _) _ _, _ => rfl
 | .loc (.n b) _ _, hb => simp [SA.bk] at hb
 | .ar _ _ _, _ => exact (h Unit ⟨fun _ => none, 0⟩).wh.elim
theorem Im.flat {t : TV} {v : AV} (h : Im t v) : v.flat = true := by
 cases h with
 | lf h => exact h
 | sl h hc => exact h.flat
theorem ImL.flat : ∀ {ts : List TV} {vs : List AV}, ImL ts vs → vs.all AV.flat = true
 | _, _, .nil => rfl
 | _, _, .cons h hc => by simp [h.flat, hc.flat]
theorem ImL.len : ∀ {ts : List TV} {vs : List AV}, ImL ts vs → vs.length = ts.length
 | _, _, .nil => rfl
 | _, _, .cons h hc => by simp [hc.len]
theorem ImL.get : ∀ {ts : List TV} {vs : List AV}, ImL ts vs → ∀ {i : Nat} {t : TV}, ts[i]? = some t → ∃ v, vs[i]? = some v ∧ Im t v
 | _, _, .nil, i, t, h => by simp at h
 | _, _, .cons h hc, 0, t, e => by simp at e; subst e; exact ⟨_, rfl, h⟩
 | _, _, .cons h hc, i + 1, t, e => hc.get (i := i) (by simpa using e)
theorem ImL.app : ∀ {ts us : List TV} {vs ws : List AV}, ImL ts vs → ImL us ws → ImL (ts ++ us) (vs ++ ws)
 | _, _, _, _, .nil, k => k
 | _, _, _, _, .cons h hc, k => .cons h (hc.app k)
theorem ImL.drop : ∀ {ts : List TV} {vs : List AV} (n : Nat), ImL ts vs → ImL (ts.drop n) (vs.drop n)
 | _, _, 0, h => by simpa using h
 | _, _, n + 1, .nil => .nil
 | _, _, n + 1, .cons h hc => by simpa using hc.drop n
theorem ImL.take : ∀ {ts : List TV} {vs : List AV} (n : Nat), ImL ts vs → ImL (ts.take n) (vs.take n)
 | _, _, 0, h => by simpa using ImL.nil
 | _, _, n + 1, .nil => .nil
 | _, _, n + 1, .cons h hc => by simpa using ImL.cons h (hc.take n)
theorem ImL.lfs : ∀ {vs : List AV}, vs.all AV.flat = true → ImL (vs.map TV.lf) vs
 | [], _ => .nil
 | v :: vs, h => by
  simp only [List.all_cons, Bool.and_eq_true] at h
  exact .cons (.lf h.1) (ImL.lfs h.2)
theorem OwL.im {σ : AH O} : ∀ {ts : List TV} {vs : List AV}, ImL ts vs → OwL σ ts vs []
 | _, _, .nil => .nil
 | _, _, .cons h hc => by simpa using OwL.cons (.im h) (OwL.im hc) (by simp)
theorem OwL.len {σ : AH O} : ∀ {ts : List TV} {vs : List AV} {L : List Nat}, OwL σ ts vs L → vs.length = ts.length
 | _, _, _, .nil => rfl
 | _, _, _, .cons h hc hd => by simp [hc.len]
mutual
theorem Ow.of {σ σ' : AH O} (hn : σ.next ≤ σ'.next) : ∀ {t : TV} {v : AV} {L : List Nat}, Ow σ t v L → (∀ b ∈ L, σ'.blk b = σ.blk b) → Ow σ' t v L
 | _, _, _, .im h, _ => .im h
 | _, _, _, .sl h hc hd, hb => .sl (h.of hn fun b hm => hb b (List.mem_append_left _ hm)) (hc.of hn fun b hm => hb b (List.mem_append_right _ hm)) hd
theorem OwL.of {σ σ' : AH O} (hn : σ.next ≤ σ'.next) : ∀ {ts : List TV} {vs : List AV} {L : List Nat}, OwL σ ts vs L → (∀ b ∈ L, σ'.blk b = σ.blk b) → OwL σ' ts vs L
 | _, _, _, .nil, _ => .nil
 | _, _, _, .cons h hc hd, hb => .cons (h.of hn fun b hm => hb b (List.mem_append_left _ hm)) (hc.of hn fun b hm => hb b (List.mem_append_right _ hm)) hd
end
mutual
theorem Ow.lt {σ : AH O} : ∀ {t : TV} {v : AV} {L : List Nat}, Ow σ t v L → ∀ b ∈ L, b < σ.next
 | _, _, _, .im h, b, hb => by simp at hb
 | _, _, _, .sl h hc hd, b, hb => (List.mem_append.1 hb).elim (h.lt b) (hc.lt b)
theorem OwL.lt {σ : AH O} : ∀ {ts : List TV} {vs : List AV} {L : List Nat}, OwL σ ts vs L → ∀ b ∈ L, b < σ.next
 | _, _, _, .nil, b, hb => by simp at hb
 | _, _, _, .cons h hc hd, b, hb => (List.mem_append.1 hb).elim (h.lt b) (hc.lt b)
end
def TV.deep : TV → Nat → Prop
 | .lf _, _ => True
 | .sl _ _ _ _, 0 => False
 | .sl _ _ _ cs, d + 1 => ∀ t ∈ cs, t.deep d
mutual
theorem Ow.fz {σ : AH O} : ∀ {t : TV} {v : AV} {L : List Nat} {d : Nat}, Ow σ t v L → t.deep d → ∃ v', FZ (d + 1) σ.blk L v v' ∧ Im t v'
 | _, v, _, d, .im h, _ => ⟨v, FZ.flat h.flat, h⟩
 | _, _, _, 0, .sl h hc hd, hdp => by unfold TV.deep at hdp; exact hdp.elim
 | _, _, _, d + 1, .sl h hc hd, hdp => by
  unfold TV.deep at hdp
  obtain ⟨vs', g1, g2⟩ := hc.fz hdp
  obtain ⟨a', k1, k2⟩ := FZ.slP h (fun _ _ => rfl) g1 (by rw [g2.len, hc.len]) hd
  exact ⟨_, k1, .sl k2 g2⟩
theorem OwL.fz {σ : AH O} : ∀ {ts : List TV} {vs : List AV} {L : List Nat} {d : Nat}, OwL σ ts vs L → (∀ t ∈ ts, t.deep d) → ∃ vs', FZL (d + 1) σ.blk L vs vs' ∧ ImL ts vs'
 | _, _, _, d, .nil, _ => ⟨[], FZL.nil, .nil⟩
 | _, _, _, d, .cons h hc hd, hdp => by
  obtain ⟨v', g1, g2⟩ := h.fz (hdp _ List.mem_cons_self)
  obtain ⟨vs', k1, k2⟩ := hc.fz fun t ht => hdp t (List.mem_cons_of_mem _ ht)
  exact ⟨v' :: vs', FZL.cons g1 k1 hd, .cons g2 k2⟩
end
theorem OwL.app {σ : AH O} : ∀ {ts us : List TV} {vs ws : List AV} {L K : List Nat}, OwL σ ts vs L → OwL σ us ws K → (∀ b ∈ L, b ∉ K) → OwL σ (ts ++ us) (vs ++ ws) (L ++ K)
 | _, _, _, _, _, _, .nil, k, _ => k
 | _, _, _, _, _, _, .cons h hc hd, k, hk => by
  rw [List.append_assoc]
  exact .cons h (hc.app k fun b hb => hk b (List.mem_append_right _ hb)) fun b hb hm => (List.mem_append.1 hm).elim (hd b hb) (hk b (List.mem_append_left _ hb))
theorem OwL.split {σ : AH O} : ∀ {ts : List TV} {vs : List AV} {L : List Nat} {i : Nat} {t : TV}, OwL σ ts vs L → ts[i]? = some t →
  ∃ v L1 L2 L3, vs[i]? = some v ∧ Ow σ t v L2 ∧ L = L1 ++ (L2 ++ L3) ∧ (∀ b ∈ L2, b ∉ L1 ∧ b ∉ L3) ∧
   ∀ (σ' : AH O) (t' : TV) (v' : AV) (L' : List Nat), σ.next ≤ σ'.next → (∀ b, b ∈ L1 ∨ b ∈ L3 → σ'.blk b = σ.blk b) → Ow σ' t' v' L' → (∀ b ∈ L', b ∉ L1 ∧ b ∉ L3) → OwL σ' (ts.set i t') (vs.set i v') (L1 ++ (L' ++ L3))
 | _, _, _, i, t, .nil, e => by simp at e
 | _, _, _, 0, t, .cons (L1 := A) (L2 := B) h hc hd, e => by
  simp at e
  subst e
  refine ⟨_, [], A, B, rfl, h, rfl, fun b hb => ⟨by simp, hd b hb⟩, fun σ' t' v' L' hn hb ho hl => ?_⟩
  show OwL σ' _ _ (L' ++ B)
  exact .cons ho (hc.of hn fun b hm => hb b (.inr hm)) fun b hm => (hl b hm).2
 | _, _, _, i + 1, t, .cons (L1 := A) h hc hd, e => by
  obtain ⟨v, L1, L2, L3, g1, g2, rfl, g4, g5⟩ := hc.split (i := i) (by simpa using e)
  refine ⟨v, A ++ L1, L2, L3, by simpa using g1, g2, by simp, fun b hb => ⟨fun hm => ?_, (g4 b hb).2⟩, fun σ' t' v' L' hn hb ho hl => ?_⟩
  ·rcases List.mem_append.1 hm with hm | hm
   ·exact hd b hm (by simp [hb])
   ·exact (g4 b hb).1 hm
  ·rw [List.append_assoc]
   refine .cons (h.of hn fun b hm => hb b (.inl (List.mem_append_left _ hm))) (g5 σ' t' v' L' hn (fun b hm => hb b (hm.imp (List.mem_append_right _) id)) ho fun b hm => ⟨fun h1 => (hl b hm).1 (List.mem_append_right _ h1), (hl b hm).2⟩) fun b hm hm2 => ?_
   rcases List.mem_append.1 hm2 with h1 | h1
   ·exact hd b hm (by simp [h1])
   ·rcases List.mem_append.1 h1 with h1 | h1
    ·exact (hl b h1).1 (List.mem_append_left _ hm)
    ·exact hd b hm (by simp [h1])
theorem OwL.get {σ : AH O} {ts : List TV} {vs : List AV} {L : List Nat} (h : OwL σ ts vs L) {i : Nat} {t : TV} (e : ts[i]? = some t) : ∃ v L', vs[i]? = some v ∧ Ow σ t v L' ∧ ∀ b ∈ L', b ∈ L := by
 obtain ⟨v, L1, L2, L3, g1, g2, rfl, _, _⟩ := h.split e
 exact ⟨v, L2, g1, g2, fun b hb => by simp [hb]⟩
theorem Ow.leaf {σ : AH O} {x v : AV} {L : List Nat} (h : Ow σ (.lf x) v L) : v = x ∧ L = [] := by
 cases h with
 | im h => cases h with | lf h => exact ⟨rfl, rfl⟩
theorem Ow.rd {σ : AH O} {el es n : Nat} {cs : List TV} {v : AV} {L : List Nat} (h : Ow σ (.sl el es n cs) v L) : ∃ a vs L', v = .sl a n ∧ Rd σ es a n vs ∧ OwL σ cs vs L' ∧ (∀ b ∈ L', b ∈ L) ∧ ∀ b ∈ SA.bk a, b ∈ L := by
 cases h with
 | im h => cases h with | sl h hc => exact ⟨_, _, [], rfl, h O σ, .im hc, by simp, by rw [h.bk]; simp⟩
 | sl h hc hd => exact ⟨_, _, _, rfl, h.rd, hc, fun b hb => List.mem_append_right _ hb, fun b hb => List.mem_append_left _ hb⟩
theorem Im.rd {el es n : Nat} {cs : List TV} {v : AV} (h : Im (.sl el es n cs) v) : ∃ a vs, v = .sl a n ∧ Imm es a n vs ∧ ImL cs vs := by
 cases h with | sl h hc => exact ⟨_, _, rfl, h, hc⟩
theorem Im.leaf {x v : AV} (h : Im (.lf x) v) : v = x := by cases h; rfl
theorem ImL.ofLeaves : ∀ {xs vs : List AV}, ImL (xs.map TV.lf) vs → vs = xs
 | [], _, h => by cases h; rfl
 | x :: xs, _, h => by
  cases h with
  | cons h hc => rw [h.leaf, hc.ofLeaves]
theorem OwL.ofLeaves {σ : AH O} : ∀ {xs vs : List AV} {L : List Nat}, OwL σ (xs.map TV.lf) vs L → vs = xs ∧ L = []
 | [], _, _, h => by cases h; exact ⟨rfl, rfl⟩
 | x :: xs, _, _, h => by
  cases h with
  | cons h hc hd =>
   obtain ⟨rfl, rfl⟩ := h.leaf
   obtain ⟨rfl, rfl⟩ := hc.ofLeaves
   exact ⟨rfl, rfl⟩
theorem fmt_len {α β : Type} {enc : α → List β} {k : Nat} (hk : ∀ x, (enc x).length = k) : ∀ l : List α, (l.flatMap enc).length = l.length * k
 | [] => by simp
 | x :: l => by rw [List.flatMap_cons, List.length_append, hk, fmt_len hk l, List.length_cons, Nat.succ_mul]; omega
theorem fmt_get {α β : Type} {enc : α → List β} {k : Nat} (hk : ∀ x, (enc x).length = k) : ∀ (l : List α) (i j : Nat), j < k → (l.flatMap enc)[i * k + j]? = (l[i]?).bind fun x => (enc x)[j]?
 | [], i, j, h => by simp
 | x :: l, 0, j, h => by rw [List.flatMap_cons, Nat.zero_mul, Nat.zero_add, List.getElem?_append_left (by rw [hk]; exact h)]; rfl
 | x :: l, i + 1, j, h => by
  rw [List.flatMap_cons, List.getElem?_append_right (by rw [hk, Nat.succ_mul]; omega), hk, show (i + 1) * k + j - k = i * k + j by rw [Nat.succ_mul]; omega, fmt_get hk l i j h]
  simp
theorem OwnS.set {σ σ' : AH O} {el es n : Nat} {a : SA} {cs : List AV} {o : Nat} {v : AV} (h : OwnS σ el es a n cs) {b : Nat} (ha : a = .loc (.n b) 0 es) (hs : σ' = σ.put b (.cells true el (cs.set o v))) : OwnS σ' el es a n (cs.set o v) := by
 subst ha; subst hs
 obtain ⟨k, e1, _, _, h3, h4⟩ := h.wh
 cases e1
 exact OwnS.new (by rw [List.length_set]; exact h.len) (by simp [AH.put]) (by simpa using h4)
theorem set_same {α : Type} {l : List α} {i : Nat} {x : α} (h : l[i]? = some x) : l.set i x = l := by
 apply List.ext_getElem?
 intro j
 rw [List.getElem?_set]
 by_cases c : i = j
 ·subst c
  rw [if_pos rfl, if_pos (List.getElem?_eq_some_iff.1 h).1, h]
 ·rw [if_neg c]
theorem flat_ints {k : IntKind} (l : List Int) : (l.map (AV.i k)).all AV.flat = true := by simp [AV.flat]
theorem Ow.leaves {σ : AH O} {el es n : Nat} {a : SA} {xs : List AV} (h : OwnS σ el es a n xs) (hx : xs.all AV.flat = true) : Ow σ (.sl el es n (xs.map TV.lf)) (.sl a n) (SA.bk a) := by
 have := Ow.sl h.p (OwL.im (ImL.lfs hx)) (by simp)
 simpa using this
theorem FZ.pre {d : Nat} {σ : AH O} {H : Nat → Option (Blk O)} {L : List Nat} {el es n k : Nat} {cs cs' : List AV} (hb : σ.blk k = some (.cells true el cs)) (hH : H k = σ.blk k) (hn : n * es ≤ cs.length) (hc : FZL (d + 1) H L (cs.take (n * es)) cs') (hl : cs'.length = n * es) (hd : k ∉ L) :
  FZ (d + 2) H (k :: L) (.sl (.loc (.n k) 0 es) n) (.sl (.loc (.f cs') 0 es) n) ∧ Imm es (.loc (.f cs') 0 es) n cs' := by
 refine ⟨fun σ1 hσ => ?_, Imm.f hl⟩
 have hk : σ1.blk k = some (.cells true el cs) := by rw [hσ k (by simp), hH]; exact hb
 obtain ⟨σ', e1, n1, b1⟩ := hc (σ1.kill k) fun b hb => by
  have : b ≠ k := fun e => hd (e ▸ hb)
  rw [kill_blk, if_neg this]; exact hσ b (by simp [hb])
 refine ⟨σ', ?_, by simpa using n1, fun b => ?_⟩
 ·rw [frzV_sl, hk]
  simp only
  rw [Nat.ble_eq_true_of_le (by omega), cond_true, List.drop_zero, e1]; rfl
 ·rw [b1, kill_blk]
  by_cases g1 : b = k <;> by_cases g2 : b ∈ L <;> simp [g1, g2]
end Go.Abs
namespace Go.Abs
open Go
variable {O : Type}
structure Row {α : Type} (row : α → List TV) (k : Nat) (a : SA) (l : List α) : Prop where
 hk : ∀ x, (row x).length = k
 it : ∃ vs, Imm k a l.length vs ∧ ImL (l.flatMap row) vs
theorem Row.im {α : Type} {row : α → List TV} {k : Nat} {a : SA} {l : List α} (h : Row row k a l) (el : Nat) : Im (.sl el k l.length (l.flatMap row)) (.sl a l.length) := by
 obtain ⟨vs, h1, h2⟩ := h.it; exact .sl h1 h2
theorem Row.bk {α : Type} {row : α → List TV} {k : Nat} {a : SA} {l : List α} (h : Row row k a l) : SA.bk a = [] := by
 obtain ⟨vs, h1, h2⟩ := h.it; exact h1.bk
theorem Row.of {α : Type} {row : α → List TV} {k el n : Nat} {l : List α} {v : AV} (hk : ∀ x, (row x).length = k) (h : Im (.sl el k n (l.flatMap row)) v) (hn : n = l.length) : ∃ a, v = .sl a l.length ∧ Row row k a l := by
 subst hn
 obtain ⟨a, vs, rfl, h1, h2⟩ := h.rd
 exact ⟨a, rfl, hk, vs, h1, h2⟩
theorem Row.nil {α : Type} {row : α → List TV} {k : Nat} (hk : ∀ x, (row x).length = k) : Row row k .nil [] := ⟨hk, [], Imm.nil k, .nil⟩
theorem Row.get {α : Type} {row : α → List TV} {k : Nat} {a : SA} {l : List α} (h : Row row k a l) {i : Nat} {x : α} (hx : l[i]? = some x) :
  ∃ b o us, a = .loc b o k ∧ ImL (row x) us ∧ ∀ (O : Type) (σ : AH O) (j : Nat), j < k → σ.ld b (o + i * k + j) = us[j]? := by
 obtain ⟨vs, h1, h2⟩ := h.it
 have hi := (List.getElem?_eq_some_iff.1 hx).1
 obtain ⟨b, o, rfl, _⟩ := (h1 Unit ⟨fun _ => none, 0⟩).ref hi
 have hlen := h1.len
 have hle : i * k + k ≤ l.length * k := by rw [← Nat.succ_mul]; exact Nat.mul_le_mul_right _ hi
 refine ⟨b, o, (vs.drop (i * k)).take k, rfl, ?_, fun O σ j hj => ?_⟩
 ·have := (h2.drop (i * k)).take k
  have e : ((l.flatMap row).drop (i * k)).take k = row x := by
   apply List.ext_getElem?
   intro j
   rw [List.getElem?_take]
   split
   ·rename_i hj
    rw [List.getElem?_drop, fmt_get h.hk _ _ _ hj, hx]; rfl
   ·rename_i hj
    rw [List.getElem?_eq_none]
    rw [h.hk]; omega
  rw [e] at this; exact this
 ·obtain ⟨b', o', e, h3⟩ := (h1 O σ).ref hi
  cases e
  rw [h3 j hj, List.getElem?_take, if_pos hj, List.getElem?_drop]
theorem Row.all {α : Type} {row : α → List TV} {k : Nat} {a : SA} {l : List α} (h : Row row k a l) : ∃ vs, vs.length = l.length * k ∧ ImL (l.flatMap row) vs ∧ ∀ (O : Type) (σ : AH O), σ.rdSl a l.length k = some vs := by
 obtain ⟨vs, h1, h2⟩ := h.it
 exact ⟨vs, h1.len, h2, fun O σ => (h1 O σ).rdSl⟩
theorem flat_drop {α : Type} {row : α → List TV} {k : Nat} (hk : ∀ x, (row x).length = k) : ∀ (l : List α) (i : Nat), (l.drop i).flatMap row = (l.flatMap row).drop (i * k)
 | l, 0 => by simp
 | [], i + 1 => by simp
 | x :: l, i + 1 => by
  rw [List.drop_succ_cons, flat_drop hk l i, List.flatMap_cons, List.drop_append, List.drop_eq_nil_of_le (as := row x) (by rw [hk, Nat.succ_mul]; omega), hk, Nat.succ_mul, Nat.add_sub_cancel]; rfl
theorem flat_take {α : Type} {row : α → List TV} {k : Nat} (hk : ∀ x, (row x).length = k) : ∀ (l : List α) (i : Nat), (l.take i).flatMap row = (l.flatMap row).take (i * k)
 | l, 0 => by simp
 | [], i + 1 => by simp
 | x :: l, i + 1 => by
  rw [List.take_succ_cons, List.flatMap_cons, List.flatMap_cons, flat_take hk l i, List.take_append, hk, List.take_of_length_le (l := row x) (by rw [hk, Nat.succ_mul]; omega), Nat.succ_mul, Nat.add_sub_cancel]
theorem Row.part {α : Type} {row : α → List TV} {k : Nat} {a : SA} {l : List α} (h : Row row k a l) {lo n : Nat} (hn : lo + n ≤ l.length) : ∃ a', a.adv lo k = some a' ∧ Row row k a' ((l.drop lo).take n) := by
 obtain ⟨vs, h1, h2⟩ := h.it
 obtain ⟨a', g1, g2⟩ := h1.adv hn
 refine ⟨a', g1, h.hk, (vs.drop (lo * k)).take (n * k), ?_, ?_⟩
 ·have : ((l.drop lo).take n).length = n := by simp; omega
  rw [this]; exact g2
 ·rw [flat_take h.hk, flat_drop h.hk]
  exact (h2.drop _).take _
def int1 (k : IntKind) (n : Int) : List TV := [.lf (.i k n)]
theorem int1_len (k : IntKind) (n : Int) : (int1 k n).length = 1 := rfl
theorem int1_flat (k : IntKind) : ∀ l : List Int, l.flatMap (int1 k) = (l.map (AV.i k)).map TV.lf
 | [] => rfl
 | x :: l => by rw [List.flatMap_cons, int1_flat k l]; rfl
abbrev Ints (k : IntKind) (a : SA) (l : List Int) : Prop := Row (int1 k) 1 a l
theorem Ints.mk {k : IntKind} {a : SA} {l : List Int} (h : Imm 1 a l.length (l.map (AV.i k))) : Ints k a l := ⟨int1_len k, _, h, by rw [int1_flat]; exact ImL.lfs (flat_ints l)⟩
theorem Ints.imm {k : IntKind} {a : SA} {l : List Int} (h : Ints k a l) : Imm 1 a l.length (l.map (AV.i k)) := by
 obtain ⟨vs, h1, h2⟩ := h.it
 rw [int1_flat] at h2
 rw [h2.ofLeaves] at h1; exact h1
theorem Ints.at {k : IntKind} {a : SA} {l : List Int} (h : Ints k a l) {i : Nat} {x : Int} (hx : l[i]? = some x) : ∃ b o, a = .loc b o 1 ∧ ∀ (O : Type) (σ : AH O), σ.ld b (o + i) = some (.i k x) := by
 obtain ⟨b, o, us, e, h1, h2⟩ := h.get hx
 refine ⟨b, o, e, fun O σ => ?_⟩
 have := h2 O σ 0 (by decide)
 rw [Nat.mul_one, Nat.add_zero] at this
 rw [this]
 cases h1 with
 | cons h1 hc => rw [h1.leaf]; rfl
structure Bld {α : Type} (σ : AH O) (el k : Nat) (row : α → List TV) (a : SA) (l : List α) : Prop where
 hk : ∀ x, (row x).length = k
 it : ∃ vs, OwnS σ el k a l.length vs ∧ ImL (l.flatMap row) vs
section bld
variable {α : Type} {σ : AH O} {el k : Nat} {row : α → List TV} {a : SA} {l : List α}
theorem Bld.nil (σ : AH O) (el : Nat) (hk : ∀ x, (row x).length = k) : Bld σ el k row .nil [] := ⟨hk, [], OwnS.nil _ _ _, .nil⟩
theorem Bld.z (σ : AH O) (el : Nat) (hk : ∀ x, (row x).length = k) : Bld σ el k row .z [] := ⟨hk, [], OwnS.z _ _ _, .nil⟩
theorem Bld.of {σ' : AH O} (h : Bld σ el k row a l) (hn : σ.next ≤ σ'.next) (hb : ∀ b ∈ SA.bk a, σ'.blk b = σ.blk b) : Bld σ' el k row a l := by
 obtain ⟨vs, h1, h2⟩ := h.it; exact ⟨h.hk, vs, h1.of hn hb, h2⟩
theorem Bld.lt (h : Bld σ el k row a l) : ∀ b ∈ SA.bk a, b < σ.next := by obtain ⟨vs, h1, h2⟩ := h.it; exact h1.lt
theorem Bld.ext {σ' : AH O} (h : Bld σ el k row a l) (hE : Ext σ σ') : Bld σ' el k row a l := h.of hE.next fun b hb => hE.blk b (h.lt b hb)
theorem Bld.app (h : Bld σ el k row a l) {nid : Nat} {new : List AV} {m : List α} (hne : nid ∉ SA.bk a) (hlt : nid < σ.next) (hm : ImL (m.flatMap row) new) :
  Ok (σ.appSl nid el k a l.length m.length new) fun r => ∃ a', r.1 = .sl a' (l.length + m.length) ∧ Bld r.2 el k row a' (l ++ m) ∧ r.2.next = σ.next ∧ (∀ b, b ≠ nid → b ∉ SA.bk a → r.2.blk b = σ.blk b) ∧ ∀ b ∈ SA.bk a', b = nid := by
 obtain ⟨vs, h1, h2⟩ := h.it
 refine (app_ok h1 hne hlt (by rw [hm.len, fmt_len h.hk])).mono ?_
 rintro ⟨q, σ'⟩ ⟨a', g1, g2, g3, g4, g5⟩
 refine ⟨a', g1, ⟨h.hk, vs ++ new, ?_, ?_⟩, g3, g4, g5⟩
 ·rw [List.length_append]; exact g2
 ·rw [List.flatMap_append]; exact h2.app hm
theorem Bld.fz {d : Nat} {H : Nat → Option (Blk O)} (h : Bld σ el k row a l) (hH : ∀ b ∈ SA.bk a, H b = σ.blk b) : ∃ a', FZ (d + 2) H (SA.bk a) (.sl a l.length) (.sl a' l.length) ∧ Row row k a' l := by
 obtain ⟨vs, h1, h2⟩ := h.it
 obtain ⟨a', g1, g2⟩ := FZ.sl (d := d) (H := H) (L := []) h1 hH (FZL.flat h2.flat) rfl (by simp)
 rw [List.append_nil] at g1
 exact ⟨a', g1, h.hk, vs, g2, h2⟩
theorem Bld.rd (h : Bld σ el k row a l) : ∃ vs, Rd σ k a l.length vs ∧ ImL (l.flatMap row) vs := by
 obtain ⟨vs, h1, h2⟩ := h.it; exact ⟨vs, h1.rd, h2⟩
theorem Bld.get (h : Bld σ el k row a l) {i : Nat} {x : α} (hx : l[i]? = some x) : ∃ b us, a = .loc (.n b) 0 k ∧ b < σ.next ∧ ImL (row x) us ∧ (∀ j, j < k → σ.ld (.n b) (i * k + j) = us[j]?) := by
 obtain ⟨vs, h1, h2⟩ := h.it
 have hi := (List.getElem?_eq_some_iff.1 hx).1
 obtain ⟨b, rfl, hb, hlt⟩ := h1.loc (by omega)
 have hlen := h1.len
 refine ⟨b, (vs.drop (i * k)).take k, rfl, hlt, ?_, fun j hj => ?_⟩
 ·have := (h2.drop (i * k)).take k
  have e : ((l.flatMap row).drop (i * k)).take k = row x := by
   apply List.ext_getElem?
   intro j
   rw [List.getElem?_take]
   split
   ·rename_i hj
    rw [List.getElem?_drop, fmt_get h.hk _ _ _ hj, hx]; rfl
   ·rename_i hj
    rw [List.getElem?_eq_none]
    rw [h.hk]; omega
  rw [e] at this; exact this
 ·rw [s_ld, hb, s_ldM, List.getElem?_take, if_pos hj, List.getElem?_drop]
end bld
theorem Bld.new {α : Type} {σ : AH O} {el k b : Nat} {row : α → List TV} (hk : ∀ x, (row x).length = k) (h : σ.blk b = some (.cells true el [])) (hb : b < σ.next) : Bld σ el k row (.loc (.n b) 0 k) [] := ⟨hk, [], OwnS.new (by simp) h hb, .nil⟩
theorem Row.isNil {α : Type} {row : α → List TV} {k : Nat} {a : SA} {l : List α} (h : Row row k a l) (hn : SA.isNil a = true) : a = .nil ∧ l = [] := by
 obtain ⟨vs, h1, _⟩ := h.it
 have := (h1 Unit ⟨fun _ => none, 0⟩).wh
 cases a with
 | nil => exact ⟨rfl, List.eq_nil_of_length_eq_zero this.1⟩
 | z => cases hn
 | loc b o e => cases hn
 | ar => cases hn
end Go.Abs
namespace Go.Abs
open Go
variable {O : Type}
structure New (σ σ' : AH O) (ts : List TV) (vs : List AV) : Prop where
 e : Ext σ σ'
 it : ∃ L, OwL σ' ts vs L ∧ ∀ b ∈ L, σ.next ≤ b
theorem New.im {σ σ' : AH O} {ts : List TV} {vs : List AV} (h : ImL ts vs) (e : Ext σ σ') : New σ σ' ts vs := ⟨e, [], OwL.im h, by simp⟩
theorem New.nil {σ σ' : AH O} (e : Ext σ σ') : New σ σ' [] [] := ⟨e, [], .nil, by simp⟩
theorem New.ext {σ0 σ σ' σ'' : AH O} {ts : List TV} {vs : List AV} (h : New σ σ' ts vs) (e0 : Ext σ0 σ) (e : Ext σ' σ'') : New σ0 σ'' ts vs := by
 obtain ⟨h1, L, h2, h3⟩ := h
 exact ⟨(e0.trans h1).trans e, L, h2.of e.next fun b hb => e.blk b (h2.lt b hb), fun b hb => Nat.le_trans e0.next (h3 b hb)⟩
theorem New.keep {σ0 σ σ' σ'' : AH O} {ts : List TV} {vs : List AV} (h : New σ σ' ts vs) (e0 : σ0.next ≤ σ.next) (e : Ext σ0 σ'') (hn : σ'.next ≤ σ''.next) (hb : ∀ b, σ.next ≤ b → b < σ'.next → σ''.blk b = σ'.blk b) : New σ0 σ'' ts vs := by
 obtain ⟨h1, L, h2, h3⟩ := h
 exact ⟨e, L, h2.of hn fun b hm => hb b (h3 b hm) (h2.lt b hm), fun b hm => Nat.le_trans e0 (h3 b hm)⟩
theorem New.app {σ σ1 σ2 : AH O} {ts us : List TV} {vs ws : List AV} (h : New σ σ1 ts vs) (k : New σ1 σ2 us ws) : New σ σ2 (ts ++ us) (vs ++ ws) := by
 obtain ⟨h1, L, h2, h3⟩ := h
 obtain ⟨k1, K, k2, k3⟩ := k
 refine ⟨h1.trans k1, L ++ K, (h2.of k1.next fun b hb => k1.blk b (h2.lt b hb)).app k2 (fun b hb hm => by have := h2.lt b hb; have := k3 b hm; omega), fun b hb => ?_⟩
 rcases List.mem_append.1 hb with hb | hb
 ·exact h3 b hb
 ·exact Nat.le_trans h1.next (k3 b hb)
theorem New.cons {σ σ1 σ2 : AH O} {t : TV} {us : List TV} {v : AV} {ws : List AV} (h : New σ σ1 [t] [v]) (k : New σ1 σ2 us ws) : New σ σ2 (t :: us) (v :: ws) := h.app k
theorem New.lf {σ σ' : AH O} {x : AV} {us : List TV} {ws : List AV} (hx : x.flat = true) (k : New σ σ' us ws) : New σ σ' (.lf x :: us) (x :: ws) :=
 New.cons (New.im (σ := σ) (σ' := σ) (.cons (.lf hx) .nil) (Ext.refl _)) k
theorem New.still {σ σ' σ'' : AH O} {ts : List TV} {vs : List AV} (h : New σ σ' ts vs) (hn : σ'.next ≤ σ''.next) (hb : ∀ b, σ.next ≤ b → b < σ'.next → σ''.blk b = σ'.blk b) : ∃ L, OwL σ'' ts vs L ∧ ∀ b ∈ L, σ.next ≤ b := by
 obtain ⟨h1, L, h2, h3⟩ := h
 exact ⟨L, h2.of hn fun b hm => hb b (h3 b hm) (h2.lt b hm), h3⟩
theorem New.sl {σ σ' : AH O} {m el es n : Nat} {a : SA} {cs : List TV} {vs : List AV} (e : Ext σ σ') (o : OwnP σ' el es a n vs) (k : ∃ L, OwL σ' cs vs L ∧ ∀ b ∈ L, m ≤ b) (ha : ∀ b ∈ SA.bk a, σ.next ≤ b ∧ b < m) (hm : σ.next ≤ m) : New σ σ' [.sl el es n cs] [.sl a n] := by
 obtain ⟨L, k2, k3⟩ := k
 refine ⟨e, (SA.bk a ++ L) ++ [], .cons (.sl o k2 fun b hb hl => by have := ha b hb; have := k3 b hl; omega) .nil (by simp), fun b hb => ?_⟩
 simp only [List.append_nil] at hb
 rcases List.mem_append.1 hb with hb | hb
 ·exact (ha b hb).1
 ·exact Nat.le_trans hm (k3 b hb)
theorem New.ints {σ σ' : AH O} {el n : Nat} {a : SA} {xs : List AV} (o : OwnS σ' el 1 a n xs) (hx : xs.all AV.flat = true) (e : Ext σ σ') (ha : ∀ b ∈ SA.bk a, σ.next ≤ b) : New σ σ' [.sl el 1 n (xs.map TV.lf)] [.sl a n] :=
 ⟨e, SA.bk a ++ [], .cons (Ow.leaves o hx) .nil (by simp), fun b hb => ha b (by simpa using hb)⟩
theorem frz_agg {s : Sm O} {xs : List AV} {σ : AH O} {ts : List TV} (hd : ∀ t ∈ ts, t.deep 6) (h : Ok (s xs σ) fun r => ∃ vs, r.1 = .agg vs ∧ New σ r.2 ts vs) : Ok (frz s xs σ) fun r => (∃ vs, r.1 = .agg vs ∧ ImL ts vs) ∧ Ext σ r.2 := by
 refine frz_ok (Q := fun v => ∃ vs, v = .agg vs ∧ ImL ts vs) (h.mono ?_)
 rintro ⟨v, σ'⟩ ⟨vs, rfl, h1, L, h2, h3⟩
 obtain ⟨vs', g1, g2⟩ := h2.fz (d := 6) hd
 exact ⟨.agg vs', L, FZ.agg g1, h3, h1, vs', rfl, g2⟩
theorem OwL.drop {σ : AH O} : ∀ {ts : List TV} {vs : List AV} {L : List Nat} (n : Nat), OwL σ ts vs L → ∃ L', OwL σ (ts.drop n) (vs.drop n) L' ∧ ∀ c ∈ L', c ∈ L
 | _, _, L, 0, h => ⟨L, by simpa using h, fun _ h => h⟩
 | _, _, _, n + 1, .nil => ⟨[], .nil, by simp⟩
 | _, _, _, n + 1, .cons h hc hd => by
  obtain ⟨L', g1, g2⟩ := hc.drop n
  exact ⟨L', by simpa using g1, fun c hm => List.mem_append_right _ (g2 c hm)⟩
theorem OwL.take {σ : AH O} : ∀ {ts : List TV} {vs : List AV} {L : List Nat} (n : Nat), OwL σ ts vs L → ∃ L', OwL σ (ts.take n) (vs.take n) L' ∧ ∀ c ∈ L', c ∈ L
 | _, _, _, 0, h => ⟨[], by simpa using OwL.nil, by simp⟩
 | _, _, _, n + 1, .nil => ⟨[], by simpa using OwL.nil, by simp⟩
 | _, _, _, n + 1, .cons (L1 := A) h hc hd => by
  obtain ⟨L', g1, g2⟩ := hc.take n
  refine ⟨A ++ L', by simpa using OwL.cons h g1 (fun b hb hm => hd b hb (g2 b hm)), fun c hm => ?_⟩
  rcases List.mem_append.1 hm with hm | hm
  ·exact List.mem_append_left _ hm
  ·exact List.mem_append_right _ (g2 c hm)
theorem Bld.out {α : Type} {σ σ' : AH O} {el k : Nat} {row : α → List TV} {a : SA} {l : List α} (h : Bld σ' el k row a l) (e : Ext σ σ') (ha : ∀ b ∈ SA.bk a, σ.next ≤ b) : New σ σ' [.sl el k l.length (l.flatMap row)] [.sl a l.length] := by
 obtain ⟨vs, h1, h2⟩ := h.it
 exact ⟨e, (SA.bk a ++ []) ++ [], .cons (.sl h1.p (OwL.im h2) (by simp)) .nil (by simp), fun b hb => ha b (by simpa using hb)⟩
structure BldO {α : Type} (base : Nat) (σ : AH O) (el k : Nat) (row : α → List TV) (a : SA) (l : List α) : Prop where
 hk : ∀ x, (row x).length = k
 it : ∃ vs L, OwnP σ el k a l.length vs ∧ OwL σ (l.flatMap row) vs L ∧ (∀ b ∈ SA.bk a, b ∉ L) ∧ ∀ b ∈ SA.bk a ++ L, base ≤ b
section bldo
variable {α : Type} {base : Nat} {σ : AH O} {el k : Nat} {row : α → List TV} {a : SA} {l : List α}
theorem BldO.nil (base : Nat) (σ : AH O) (el : Nat) (hk : ∀ x, (row x).length = k) : BldO base σ el k row .nil [] := ⟨hk, [], [], (OwnS.nil _ _ _).p, .nil, by simp [SA.bk], by simp [SA.bk]⟩
theorem BldO.z (base : Nat) (σ : AH O) (el : Nat) (hk : ∀ x, (row x).length = k) : BldO base σ el k row .z [] := ⟨hk, [], [], (OwnS.z _ _ _).p, .nil, by simp [SA.bk], by simp [SA.bk]⟩
theorem BldO.new {b : Nat} (hk : ∀ x, (row x).length = k) (h : σ.blk b = some (.cells true el [])) (hb : b < σ.next) (h0 : base ≤ b) : BldO base σ el k row (.loc (.n b) 0 k) [] := ⟨hk, [], [], (OwnS.new (by simp) h hb).p, .nil, by simp, by simp [SA.bk]; exact h0⟩
theorem BldO.keep {σ' : AH O} (h : BldO base σ el k row a l) (hn : σ.next ≤ σ'.next) (hb : ∀ b, base ≤ b → b < σ.next → σ'.blk b = σ.blk b) : BldO base σ' el k row a l := by
 obtain ⟨hk, vs, L, h1, h2, h3, h4⟩ := h
 exact ⟨hk, vs, L, h1.of hn fun b hm => hb b (h4 b (List.mem_append_left _ hm)) (h1.lt b hm), h2.of hn fun b hm => hb b (h4 b (List.mem_append_right _ hm)) (h2.lt b hm), h3, h4⟩
theorem BldO.ext {σ' : AH O} (h : BldO base σ el k row a l) (e : Ext σ σ') : BldO base σ' el k row a l := h.keep e.next fun b _ hb => e.blk b hb
theorem BldO.bk (h : BldO base σ el k row a l) : ∀ b ∈ SA.bk a, base ≤ b ∧ b < σ.next := by
 obtain ⟨hk, vs, L, h1, h2, h3, h4⟩ := h
 exact fun b hb => ⟨h4 b (by simp [hb]), h1.lt b hb⟩
theorem BldO.app {σ2 σ3 : AH O} {m : List α} {new : List AV} {nid : Nat} (h : BldO base σ el k row a l) (hb : base ≤ σ.next) (n : New σ σ2 (m.flatMap row) new) (e : Ext σ2 σ3) (h1 : σ2.next ≤ nid) (h2 : nid < σ3.next) :
  Ok (σ3.appSl nid el k a l.length m.length new) fun r => ∃ a', r.1 = .sl a' (l.length + m.length) ∧ BldO base r.2 el k row a' (l ++ m) ∧ r.2.next = σ3.next ∧ (∀ b, b ≠ nid → b ∉ SA.bk a → r.2.blk b = σ3.blk b) ∧ ∀ b ∈ SA.bk a', b = nid ∨ b ∈ SA.bk a := by
 obtain ⟨hk, vs, L, p1, p2, p3, p4⟩ := h
 obtain ⟨e1, K, n1, n2⟩ := n
 have E := e1.trans e
 have q1 : OwnP σ3 el k a l.length vs := p1.of E.next fun b hm => E.blk b (p1.lt b hm)
 have q2 : OwL σ3 (l.flatMap row) vs L := p2.of E.next fun b hm => E.blk b (p2.lt b hm)
 have q3 : OwL σ3 (m.flatMap row) new K := n1.of e.next fun b hm => e.blk b (n1.lt b hm)
 have len := e1.next
 refine (app_okP q1 (fun hm => by have := p1.lt _ hm; omega) h2 (by rw [n1.len, fmt_len hk])).mono ?_
 rintro ⟨q, σ4⟩ ⟨a', g1, g2, g3, g4, g5⟩
 simp only at g1 g2 g3 g4
 have all := q2.app q3 fun b hb hm => by have := p2.lt b hb; have := n2 b hm; omega
 refine ⟨a', g1, ⟨hk, vs ++ new, L ++ K, ?_, ?_, fun b hb hm => ?_, fun b hb => ?_⟩, g3, g4, fun b hb => .inl (g5 b hb)⟩
 ·rw [List.length_append]; exact g2
 ·rw [List.flatMap_append]
  refine all.of (by show σ3.next ≤ σ4.next; omega) fun b hb => ?_
  rcases List.mem_append.1 hb with hb | hb
  ·exact g4 b (by have := p2.lt b hb; omega) fun hm => p3 b hm hb
  ·exact g4 b (by have := n1.lt b hb; omega) fun hm => by have := p1.lt b hm; have := n2 b hb; omega
 ·have := g5 b hb
  rcases List.mem_append.1 hm with hm | hm
  ·have := p2.lt b hm; omega
  ·have := n1.lt b hm; omega
 ·rcases List.mem_append.1 hb with hb | hb
  ·have := g5 b hb; omega
  ·rcases List.mem_append.1 hb with hb | hb
   ·exact p4 b (by simp [hb])
   ·have := n2 b hb; omega
theorem BldO.app' {σ3 : AH O} {m : List α} {new : List AV} {nid : Nat} (h : BldO base σ el k row a l) (hb : base ≤ σ.next) (hn : σ.next ≤ σ3.next) (hf : ∀ b, base ≤ b → b < σ.next → σ3.blk b = σ.blk b) (n : ∃ K, OwL σ3 (m.flatMap row) new K ∧ ∀ b ∈ K, σ.next ≤ b ∧ b ≠ nid) (h1 : σ.next ≤ nid) (h2 : nid < σ3.next) :
  Ok (σ3.appSl nid el k a l.length m.length new) fun r => ∃ a', r.1 = .sl a' (l.length + m.length) ∧ BldO base r.2 el k row a' (l ++ m) ∧ r.2.next = σ3.next ∧ (∀ b, b ≠ nid → b ∉ SA.bk a → r.2.blk b = σ3.blk b) ∧ ∀ b ∈ SA.bk a', b = nid ∨ b ∈ SA.bk a := by
 obtain ⟨K, q3, n2⟩ := n
 obtain ⟨hk, vs, L, p1, p2, p3, p4⟩ := h
 have q1 : OwnP σ3 el k a l.length vs := p1.of hn fun b hm => hf b (p4 b (by simp [hm])) (p1.lt b hm)
 have q2 : OwL σ3 (l.flatMap row) vs L := p2.of hn fun b hm => hf b (p4 b (by simp [hm])) (p2.lt b hm)
 refine (app_okP q1 (fun hm => by have := p1.lt _ hm; omega) h2 (by rw [q3.len, fmt_len hk])).mono ?_
 rintro ⟨q, σ4⟩ ⟨a', g1, g2, g3, g4, g5⟩
 simp only at g1 g2 g3 g4
 have all := q2.app q3 fun b hb hm => by have := p2.lt b hb; have := n2 b hm; omega
 refine ⟨a', g1, ⟨hk, vs ++ new, L ++ K, ?_, ?_, fun b hb hm => ?_, fun b hb => ?_⟩, g3, g4, fun b hb => .inl (g5 b hb)⟩
 ·rw [List.length_append]; exact g2
 ·rw [List.flatMap_append]
  refine all.of (by show σ3.next ≤ σ4.next; omega) fun b hb => ?_
  rcases List.mem_append.1 hb with hb | hb
  ·exact g4 b (by have := p2.lt b hb; omega) fun hm => p3 b hm hb
  ·exact g4 b (n2 b hb).2 fun hm => by have := p1.lt b hm; have := n2 b hb; omega
 ·have := g5 b hb
  rcases List.mem_append.1 hm with hm | hm
  ·have := p2.lt b hm; omega
  ·have := (n2 b hm).2; omega
 ·rcases List.mem_append.1 hb with hb | hb
  ·have := g5 b hb; omega
  ·rcases List.mem_append.1 hb with hb | hb
   ·exact p4 b (by simp [hb])
   ·have := n2 b hb; omega
theorem BldO.all (h : BldO base σ el k row a l) : ∃ vs K, σ.rdSl a l.length k = some vs ∧ OwL σ (l.flatMap row) vs K ∧ ∀ b ∈ K, base ≤ b ∧ b < σ.next := by
 obtain ⟨hk, vs, L, p1, p2, p3, p4⟩ := h
 exact ⟨vs, L, p1.rd.rdSl, p2, fun b hb => ⟨p4 b (by simp [hb]), p2.lt b hb⟩⟩
theorem BldO.out {σ0 : AH O} (h : BldO base σ el k row a l) (e : Ext σ0 σ) (hb : σ0.next ≤ base) : New σ0 σ [.sl el k l.length (l.flatMap row)] [.sl a l.length] := by
 obtain ⟨hk, vs, L, h1, h2, h3, h4⟩ := h
 exact ⟨e, (SA.bk a ++ L) ++ [], .cons (.sl h1 h2 h3) .nil (by simp), fun b hm => Nat.le_trans hb (h4 b (by simpa using hm))⟩
theorem BldO.get (h : BldO base σ el k row a l) {i : Nat} {x : α} (hx : l[i]? = some x) : ∃ b us L, a = .loc (.n b) 0 k ∧ base ≤ b ∧ b < σ.next ∧ OwL σ (row x) us L ∧ (∀ c ∈ L, base ≤ c ∧ c < σ.next ∧ c ≠ b) ∧ ∀ j, j < k → σ.ld (.n b) (i * k + j) = us[j]? := by
 obtain ⟨hk, vs, L, h1, h2, h3, h4⟩ := h
 have hi := (List.getElem?_eq_some_iff.1 hx).1
 obtain ⟨b, rest, rfl, hb, hlt⟩ := h1.loc (by omega)
 have hle : i * k + k ≤ l.length * k := by rw [← Nat.succ_mul]; exact Nat.mul_le_mul_right _ hi
 have hvl := h1.len
 obtain ⟨L0, g0, g3⟩ := h2.drop (i * k)
 obtain ⟨L', g1, g4⟩ := g0.take k
 have g2 := fun c hc => g3 c (g4 c hc)
 have e : ((l.flatMap row).drop (i * k)).take k = row x := by
  apply List.ext_getElem?
  intro j
  rw [List.getElem?_take]
  split
  ·rename_i hj
   rw [List.getElem?_drop, fmt_get hk _ _ _ hj, hx]; rfl
  ·rename_i hj
   rw [List.getElem?_eq_none]
   rw [hk]; omega
 rw [e] at g1
 refine ⟨b, _, L', rfl, h4 b (by simp [SA.bk]), hlt, g1, fun c hc => ⟨h4 c (by simp [g2 c hc]), h2.lt c (g2 c hc), fun e => h3 b (by simp [SA.bk]) (e ▸ g2 c hc)⟩, fun j hj => ?_⟩
 rw [s_ld, hb, s_ldM, List.getElem?_take, if_pos hj, List.getElem?_drop, List.getElem?_append_left (by omega)]
end bldo
end Go.Abs
namespace Go.Abs
open Go
variable {O : Type}
structure HV where
 p : Int
 r : Int
 site : Int
 age : Int
 large : Bool
 deriving DecidableEq
structure NV where
 h : HV
 P : List Int
 R : List Int
 deriving DecidableEq
structure FV where
 nodes : List NV
 roots : List Int
 weak : List Int
 deriving DecidableEq
def HV.cs (h : HV) : List AV := [.i .i64 h.p, .i .i64 h.r, .i .i64 h.site, .i .i64 h.age, .b h.large]
def elK : IntKind → Nat | .i64 => 3 | .u64 => 22 | .u8 => 5 | _ => 0
def ints (k : IntKind) (l : List Int) : TV := .sl (elK k) 1 l.length (l.flatMap (int1 k))
theorem ints_un {k : IntKind} {l : List Int} {v : AV} (h : Im (ints k l) v) : ∃ a, v = .sl a l.length ∧ Ints k a l := Row.of (int1_len k) h rfl
theorem ints_mk {k : IntKind} {l : List Int} {a : SA} (h : Ints k a l) : Im (ints k l) (.sl a l.length) := h.im _
def NV.row (x : NV) : List TV := x.h.cs.map TV.lf ++ [ints .i64 x.P, ints .u64 x.R]
theorem NV.len (x : NV) : x.row.length = 7 := rfl
def NV.cells (x : NV) (a b : SA) : List AV := [.i .i64 x.h.p, .i .i64 x.h.r, .i .i64 x.h.site, .i .i64 x.h.age, .b x.h.large, .sl a x.P.length, .sl b x.R.length]
theorem NV.un {x : NV} {us : List AV} (h : ImL x.row us) : ∃ a b, us = x.cells a b ∧ Ints .i64 a x.P ∧ Ints .u64 b x.R := by
 unfold NV.row HV.cs at h
 cases h with
 | cons h0 h => cases h with
 | cons h1 h => cases h with
 | cons h2 h => cases h with
 | cons h3 h => cases h with
 | cons h4 h => cases h with
 | cons h5 h => cases h with
 | cons h6 h => cases h with
 | nil =>
  obtain ⟨a, rfl, ia⟩ := ints_un h5
  obtain ⟨b, rfl, ib⟩ := ints_un h6
  rw [h0.leaf, h1.leaf, h2.leaf, h3.leaf, h4.leaf]
  exact ⟨a, b, rfl, ia, ib⟩
theorem NV.mk_ {x : NV} {a b : SA} (ha : Ints .i64 a x.P) (hb : Ints .u64 b x.R) : ImL x.row (x.cells a b) :=
 .cons (.lf rfl) (.cons (.lf rfl) (.cons (.lf rfl) (.cons (.lf rfl) (.cons (.lf rfl) (.cons (ints_mk ha) (.cons (ints_mk hb) .nil))))))
abbrev Nodes (a : SA) (l : List NV) : Prop := Row NV.row 7 a l
structure FV.At (F : FV) (v : AV) : Prop where
 it : ∃ a b c, v = .agg [.sl a F.nodes.length, .sl b F.roots.length, .sl c F.weak.length] ∧ Nodes a F.nodes ∧ Ints .i64 b F.roots ∧ Ints .i64 c F.weak
theorem Row.node {a : SA} {l : List NV} (h : Nodes a l) {i : Nat} {x : NV} (hx : l[i]? = some x) : ∃ b o c d, a = .loc b o 7 ∧ Ints .i64 c x.P ∧ Ints .u64 d x.R ∧ ∀ (O : Type) (σ : AH O),
  σ.ld b (o + i * 7) = some (.i .i64 x.h.p) ∧ σ.ld b (o + i * 7 + 1) = some (.i .i64 x.h.r) ∧ σ.ld b (o + i * 7 + 2) = some (.i .i64 x.h.site) ∧ σ.ld b (o + i * 7 + 3) = some (.i .i64 x.h.age) ∧ σ.ld b (o + i * 7 + 4) = some (.b x.h.large) ∧ σ.ld b (o + i * 7 + 5) = some (.sl c x.P.length) ∧ σ.ld b (o + i * 7 + 6) = some (.sl d x.R.length) := by
 obtain ⟨b, o, us, e, h1, h2⟩ := h.get hx
 obtain ⟨c, d, rfl, hc, hd⟩ := NV.un h1
 refine ⟨b, o, c, d, e, hc, hd, fun O σ => ⟨?_, ?_, ?_, ?_, ?_, ?_, ?_⟩⟩
 ·exact h2 O σ 0 (by decide)
 ·exact h2 O σ 1 (by decide)
 ·exact h2 O σ 2 (by decide)
 ·exact h2 O σ 3 (by decide)
 ·exact h2 O σ 4 (by decide)
 ·exact h2 O σ 5 (by decide)
 ·exact h2 O σ 6 (by decide)
structure NV.few (x : NV) : Prop where
 p : x.P.length ≤ 100000
 r : x.R.length ≤ 100000
structure FV.few (F : FV) : Prop where
 n : F.nodes.length ≤ 100000
 x : ∀ x ∈ F.nodes, x.few
 r : F.roots.length ≤ 100000
 w : F.weak.length ≤ 100000
theorem eq_loop {S T : Type} {f : S → Option (S ⊕ T)} {l m : List Int} (hl : l.length = m.length) (I : Nat → S → Prop) (Q : T → Prop) (hs : ∀ k s, k < l.length → I k s → Ok (f s) fun r => if l[k]? = m[k]? then (match r with | .inl s' => I (k + 1) s' | .inr _ => False) else (match r with | .inl _ => False | .inr t => l ≠ m → Q t))
  (he : ∀ s, I l.length s → Ok (f s) fun r => match r with | .inl _ => False | .inr t => l = m → Q t) {s : S} (h0 : I 0 s) : Ok (loopF f s) Q := by
 refine Ok.count l.length (fun k s => I k s ∧ ∀ j, j < k → l[j]? = m[j]?) ?_ ?_ ⟨h0, fun j hj => by omega⟩
 ·rintro k s hk ⟨h1, h2⟩
  refine (hs k s hk h1).mono fun r hr => ?_
  by_cases c : l[k]? = m[k]?
  ·rw [if_pos c] at hr
   cases r with
   | inl s' => exact ⟨hr, fun j hj => by
     by_cases e : j = k
     ·subst e; exact c
     ·exact h2 j (by omega)⟩
   | inr t => exact hr.elim
  ·rw [if_neg c] at hr
   cases r with
   | inl s' => exact hr.elim
   | inr t => exact hr fun e => c (by rw [e])
 ·rintro s ⟨h1, h2⟩
  refine (he s h1).mono fun r hr => ?_
  cases r with
  | inl s' => exact hr.elim
  | inr t =>
   refine hr (List.ext_getElem? fun j => ?_)
   by_cases c : j < l.length
   ·exact h2 j c
   ·rw [List.getElem?_eq_none (by omega), List.getElem?_eq_none (by omega)]
end Go.Abs
set_option linter.unusedSimpArgs false
namespace Go.Abs
open Go
variable {O : Type}
theorem ints_deep (k : IntKind) (l : List Int) (d : Nat) : (ints k l).deep (d + 1) := by
 unfold ints TV.deep
 intro t ht
 obtain ⟨x, _, hx⟩ := List.mem_flatMap.1 ht
 simp [int1] at hx
 subst hx
 unfold TV.deep; trivial
theorem lf_deep (v : AV) (d : Nat) : (TV.lf v).deep d := by unfold TV.deep; trivial
theorem NV.deep (x : NV) (d : Nat) : ∀ t ∈ x.row, t.deep (d + 1) := by
 intro t ht
 simp only [NV.row, HV.cs, List.map_cons, List.map_nil, List.cons_append, List.nil_append, List.mem_cons, List.not_mem_nil, or_false] at ht
 rcases ht with rfl | rfl | rfl | rfl | rfl | rfl | rfl
 all_goals first | exact lf_deep _ _ | exact ints_deep _ _ _
theorem rows_deep {α : Type} {row : α → List TV} {el k n d : Nat} {l : List α} (h : ∀ x, ∀ t ∈ row x, t.deep d) : (TV.sl el k n (l.flatMap row)).deep (d + 1) := by
 unfold TV.deep
 intro t ht
 obtain ⟨x, _, hx⟩ := List.mem_flatMap.1 ht
 exact h x t hx
def FV.rowE (el : Nat) (F : FV) : List TV := [.sl el 7 F.nodes.length (F.nodes.flatMap NV.row), ints .i64 F.roots, ints .i64 F.weak]
theorem FV.rowE_at {el : Nat} {F : FV} {vs : List AV} (h : ImL (F.rowE el) vs) : F.At (.agg vs) := by
 unfold FV.rowE at h
 cases h with
 | cons h0 h => cases h with
 | cons h1 h => cases h with
 | cons h2 h => cases h with
 | nil =>
  obtain ⟨a, rfl, ia⟩ := Row.of NV.len h0 rfl
  obtain ⟨b, rfl, ib⟩ := ints_un h1
  obtain ⟨c, rfl, ic⟩ := ints_un h2
  exact ⟨a, b, c, rfl, ia, ib, ic⟩
theorem FV.deepE {el : Nat} (G : FV) {d : Nat} : ∀ t ∈ G.rowE el, t.deep (d + 2) := by
 intro t ht
 simp only [FV.rowE, List.mem_cons, List.not_mem_nil, or_false] at ht
 rcases ht with rfl | rfl | rfl
 ·exact rows_deep fun x => NV.deep x d
 ·exact ints_deep _ _ _
 ·exact ints_deep _ _ _
theorem NV.im7 {x : NV} {c d : SA} (hc : Ints .i64 c x.P) (hd : Ints .u64 d x.R) : ImL x.row [.i .i64 x.h.p, .i .i64 x.h.r, .i .i64 x.h.site, .i .i64 x.h.age, .b x.h.large, .sl c x.P.length, .sl d x.R.length] := NV.mk_ hc hd
end Go.Abs
