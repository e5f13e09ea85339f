/-
  Trees of plain data: what stands for them in a heap, frozen or owned. No conditions.
-/
import Derived.Test.YteklninbijohcaaAbsSl
set_option linter.unusedVariables false
set_option linter.unusedSimpArgs false
set_option linter.constructorNameAsVariable false
namespace Go.Abs
open Go
variable {O : Type}

/-- the first ones of a block of our own -/
structure OwnP (σ : AH O) (el es : Nat) (a : SA) (n : Nat) (cs : List AV) : Prop where
  len : cs.length = n * es
  wh : match a with
    | .loc b o e => ∃ k rest, b = .n k ∧ o = 0 ∧ e = es ∧ σ.blk k = some (.cells true el (cs ++ rest)) ∧ k < σ.next
    | _ => n = 0
theorem OwnS.p {σ : AH O} {el es n : Nat} {a : SA} {cs : List AV} (h : OwnS σ el es a n cs) : OwnP σ el es a n cs := by
  refine ⟨h.len, ?_⟩
  have h2 := h.wh
  cases a with
  | loc b o e => obtain ⟨k, h1, h2, h3, h4, h5⟩ := h2; exact ⟨k, [], h1, h2, h3, by rw [List.append_nil]; exact h4, h5⟩
  | nil => exact h2
  | z => exact h2
theorem OwnP.rd {σ : AH O} {el es : Nat} {a : SA} {n : Nat} {cs : List AV} (h : OwnP σ el es a n cs) : Rd σ es a n cs := by
  refine ⟨h.len, ?_⟩
  have h2 := h.wh
  have hl := h.len
  cases a with
  | loc b o e =>
    obtain ⟨k, rest, rfl, rfl, rfl, h3, _⟩ := h2
    exact ⟨rfl, cs ++ rest, by simp only [AH.cs, h3], by simp; omega, by rw [List.drop_zero, ← hl, List.take_left]⟩
  | nil => have h2 : n = 0 := h2; subst h2; exact ⟨rfl, List.eq_nil_of_length_eq_zero (by simpa using hl)⟩
  | z => have h2 : n = 0 := h2; subst h2; exact ⟨rfl, List.eq_nil_of_length_eq_zero (by simpa using hl)⟩
theorem OwnP.of {σ σ' : AH O} {el es n : Nat} {a : SA} {cs : List AV} (h : OwnP σ el es a n cs) (hn : σ.next ≤ σ'.next) (hb : ∀ b ∈ SA.bk a, σ'.blk b = σ.blk b) : OwnP σ' el es a n cs := by
  refine ⟨h.len, ?_⟩
  have h2 := h.wh
  cases a with
  | loc b o e =>
    obtain ⟨k, rest, rfl, rfl, rfl, h3, h4⟩ := h2
    exact ⟨k, rest, rfl, rfl, rfl, by rw [hb k (by simp [SA.bk])]; exact h3, Nat.lt_of_lt_of_le h4 hn⟩
  | nil => exact h2
  | z => exact h2
theorem OwnP.lt {σ : AH O} {el es n : Nat} {a : SA} {cs : List AV} (h : OwnP σ el es a n cs) : ∀ b ∈ SA.bk a, b < σ.next := fun b hb => by
  have h2 := h.wh
  match a, hb, h2 with
  | .loc (.n c) o e, hb, h2 =>
    obtain ⟨k, _, e1, _, _, _, h4⟩ := h2
    cases e1
    simp only [SA.bk, List.mem_singleton] at hb
    subst hb; exact h4
theorem OwnP.loc {σ : AH O} {el es n : Nat} {a : SA} {cs : List AV} (h : OwnP σ el es a n cs) (hn : n ≠ 0) : ∃ k rest, a = .loc (.n k) 0 es ∧ σ.blk k = some (.cells true el (cs ++ rest)) ∧ k < σ.next := by
  have h2 := h.wh
  cases a with
  | loc b o e => obtain ⟨k, rest, rfl, rfl, rfl, h3, h4⟩ := h2; exact ⟨k, rest, rfl, h3, h4⟩
  | nil => exact absurd h2 hn
  | z => exact absurd h2 hn
theorem OwnP.new {σ : AH O} {el es n b : Nat} {cs rest : List AV} (hl : cs.length = n * es) (h : σ.blk b = some (.cells true el (cs ++ rest))) (hb : b < σ.next) : OwnP σ el es (.loc (.n b) 0 es) n cs := ⟨hl, b, rest, rfl, rfl, rfl, h, hb⟩
/-- fewer of them -/
theorem OwnP.less {σ : AH O} {el es n m : Nat} {a : SA} {cs : List AV} (h : OwnP σ el es a n cs) (hm : m ≤ n) : OwnP σ el es a m (cs.take (m * es)) := by
  have hl := h.len
  have hle : m * es ≤ n * es := Nat.mul_le_mul_right _ hm
  refine ⟨by simp; omega, ?_⟩
  have h2 := h.wh
  cases a with
  | loc b o e =>
    obtain ⟨k, rest, h1, h2, h3, h4, h5⟩ := h2
    exact ⟨k, cs.drop (m * es) ++ rest, h1, h2, h3, by rw [← List.append_assoc, List.take_append_drop]; exact h4, h5⟩
  | nil => have h2 : n = 0 := h2; show m = 0; omega
  | z => have h2 : n = 0 := h2; show m = 0; omega
/-- 'append' -/
theorem app_okP {σ : AH O} {nid el es n m : Nat} {a : SA} {cs new : List AV} (h : OwnP σ el es a n cs) (hne : nid ∉ SA.bk a) (hlt : nid < σ.next) (hm : new.length = m * es) :
    Ok (σ.appSl nid el es a n m new) fun r => ∃ a', r.1 = .sl a' (n + m) ∧ OwnP r.2 el es a' (n + m) (cs ++ new) ∧ r.2.next = σ.next ∧ (∀ b, b ≠ nid → b ∉ SA.bk a → r.2.blk b = σ.blk b) ∧ ∀ b ∈ SA.bk a', b = nid := by
  have hw := h.wh
  have hl := h.len
  have hmul : (n + m) * es = n * es + m * es := Nat.add_mul _ _ _
  cases a with
  | loc b o es' =>
    obtain ⟨k, rest, rfl, rfl, rfl, h3, h4⟩ := hw
    have hc : (Nat.beq el el && Nat.ble (0 + n * es') (cs ++ rest).length) = true := by
      rw [s_beq, Bool.true_and]; exact Nat.ble_eq_true_of_le (by simp; omega)
    simp only [AH.appSl, h3, hc, cond_true]
    have ht : ((cs ++ rest).drop 0).take (n * es') = cs := by rw [List.drop_zero, ← hl, List.take_left]
    rw [ht]
    refine Ok_some.2 ⟨_, rfl, OwnP.new (rest := []) (by simp [hl, hm, hmul]) (by simp) hlt, rfl, fun q hq hq' => ?_, fun b hb' => by simpa [SA.bk] using hb'⟩
    have : q ≠ k := fun e => hq' (by simp [SA.bk, e])
    simp [hq, this]
  | nil =>
    have hS : OwnS σ el es .nil n cs := ⟨hl, hw⟩
    exact (app_ok hS hne hlt hm).mono fun r ⟨a', g1, g2, g3, g4, g5⟩ => ⟨a', g1, g2.p, g3, g4, g5⟩
  | z =>
    have hS : OwnS σ el es .z n cs := ⟨hl, hw⟩
    exact (app_ok hS hne hlt hm).mono fun r ⟨a', g1, g2, g3, g4, g5⟩ => ⟨a', g1, g2.p, g3, g4, g5⟩
/-- frozen -/
theorem FZ.slP {d : Nat} {σ : AH O} {H : Nat → Option (Blk O)} {L : List Nat} {el es n : Nat} {a : SA} {cs cs' : List AV} (h : OwnP σ el es a n cs) (hH : ∀ b ∈ SA.bk a, H b = σ.blk b) (hc : FZL (d + 1) H L cs cs') (hl : cs'.length = cs.length) (hd : ∀ b ∈ SA.bk a, b ∉ L) : ∃ a', FZ (d + 2) H (SA.bk a ++ L) (.sl a n) (.sl a' n) ∧ Imm es a' n cs' := by
  have hw := h.wh
  have hlen := h.len
  cases a with
  | loc b o e =>
    obtain ⟨k, rest, rfl, rfl, rfl, h3, h4⟩ := hw
    refine ⟨.loc (.f cs') 0 e, fun σ1 hσ => ?_, Imm.f (by rw [hl]; exact hlen)⟩
    have hk : σ1.blk k = some (.cells true el (cs ++ rest)) := by rw [hσ k (by simp [SA.bk]), hH k (by simp [SA.bk])]; exact h3
    obtain ⟨σ', e1, n1, b1⟩ := hc (σ1.kill k) fun b hb => by
      have : b ≠ k := fun e => hd k (by simp [SA.bk]) (e ▸ hb)
      rw [kill_blk, if_neg this]; exact hσ b (by simp [hb])
    refine ⟨σ', ?_, by simpa using n1, fun b => ?_⟩
    · rw [frzV_sl, hk]
      simp only
      rw [Nat.ble_eq_true_of_le (by simp; omega), cond_true, List.drop_zero, ← hlen, List.take_left, e1]; rfl
    · rw [b1, kill_blk]
      by_cases g1 : b = k <;> by_cases g2 : b ∈ L <;> simp [SA.bk, g1, g2]
  | nil => exact FZ.sl (σ := σ) (el := el) ⟨hlen, hw⟩ hH hc hl hd
  | z => exact FZ.sl (σ := σ) (el := el) ⟨hlen, hw⟩ hH hc hl hd

/-- a tree: a cell without blocks, or a slice: the element's type, its cells, how many, all cells -/
inductive TV where
  | lf (v : AV)
  | sl (el es n : Nat) (cs : List TV)
mutual
/-- it stands frozen: in every heap -/
inductive Im : TV → AV → Prop
  | lf {v : AV} (h : v.flat = true) : Im (.lf v) v
  | sl {el es n : Nat} {cs : List TV} {a : SA} {vs : List AV} (h : Imm es a n vs) (hc : ImL cs vs) : Im (.sl el es n cs) (.sl a n)
inductive ImL : List TV → List AV → Prop
  | nil : ImL [] []
  | cons {t : TV} {v : AV} {ts : List TV} {vs : List AV} (h : Im t v) (hc : ImL ts vs) : ImL (t :: ts) (v :: vs)
end
mutual
/-- it stands in this heap, in blocks of its own -/
inductive Ow (σ : AH O) : TV → AV → List Nat → Prop
  | im {t : TV} {v : AV} (h : Im t v) : Ow σ t v []
  | sl {el es n : Nat} {cs : List TV} {a : SA} {vs : List AV} {L : List Nat} (h : OwnP σ el es a n vs) (hc : OwL σ cs vs L) (hd : ∀ b ∈ SA.bk a, b ∉ L) : Ow σ (.sl el es n cs) (.sl a n) (SA.bk a ++ L)
inductive OwL (σ : AH O) : List TV → List AV → List Nat → Prop
  | nil : OwL σ [] [] []
  | cons {t : TV} {v : AV} {ts : List TV} {vs : List AV} {L1 L2 : List Nat} (h : Ow σ t v L1) (hc : OwL σ ts vs L2) (hd : ∀ b ∈ L1, b ∉ L2) : OwL σ (t :: ts) (v :: vs) (L1 ++ L2)
end
theorem Imm.flat {es n : Nat} {a : SA} {vs : List AV} (h : Imm es a n vs) : (AV.sl a n).flat = true := by
  have hb := h.bk
  match a, hb with
  | .nil, _ => rfl
  | .z, _ => rfl
  | .loc (.f _) _ _, _ => rfl
  | .loc (.n b) _ _, hb => simp [SA.bk] at hb
theorem Im.flat {t : TV} {v : AV} (h : Im t v) : v.flat = true := by
  cases h with
  | lf h => exact h
  | sl h hc => exact h.flat
theorem ImL.flat : ∀ {ts : List TV} {vs : List AV}, ImL ts vs → vs.all AV.flat = true
  | _, _, .nil => rfl
  | _, _, .cons h hc => by simp [h.flat, hc.flat]
theorem ImL.len : ∀ {ts : List TV} {vs : List AV}, ImL ts vs → vs.length = ts.length
  | _, _, .nil => rfl
  | _, _, .cons h hc => by simp [hc.len]
theorem ImL.get : ∀ {ts : List TV} {vs : List AV}, ImL ts vs → ∀ {i : Nat} {t : TV}, ts[i]? = some t → ∃ v, vs[i]? = some v ∧ Im t v
  | _, _, .nil, i, t, h => by simp at h
  | _, _, .cons h hc, 0, t, e => by simp at e; subst e; exact ⟨_, rfl, h⟩
  | _, _, .cons h hc, i + 1, t, e => hc.get (i := i) (by simpa using e)
theorem ImL.app : ∀ {ts us : List TV} {vs ws : List AV}, ImL ts vs → ImL us ws → ImL (ts ++ us) (vs ++ ws)
  | _, _, _, _, .nil, k => k
  | _, _, _, _, .cons h hc, k => .cons h (hc.app k)
theorem ImL.drop : ∀ {ts : List TV} {vs : List AV} (n : Nat), ImL ts vs → ImL (ts.drop n) (vs.drop n)
  | _, _, 0, h => by simpa using h
  | _, _, n + 1, .nil => .nil
  | _, _, n + 1, .cons h hc => by simpa using hc.drop n
theorem ImL.take : ∀ {ts : List TV} {vs : List AV} (n : Nat), ImL ts vs → ImL (ts.take n) (vs.take n)
  | _, _, 0, h => by simpa using ImL.nil
  | _, _, n + 1, .nil => .nil
  | _, _, n + 1, .cons h hc => by simpa using ImL.cons h (hc.take n)
theorem ImL.lfs : ∀ {vs : List AV}, vs.all AV.flat = true → ImL (vs.map TV.lf) vs
  | [], _ => .nil
  | v :: vs, h => by
    simp only [List.all_cons, Bool.and_eq_true] at h
    exact .cons (.lf h.1) (ImL.lfs h.2)
theorem OwL.im {σ : AH O} : ∀ {ts : List TV} {vs : List AV}, ImL ts vs → OwL σ ts vs []
  | _, _, .nil => .nil
  | _, _, .cons h hc => by simpa using OwL.cons (.im h) (OwL.im hc) (by simp)
theorem OwL.len {σ : AH O} : ∀ {ts : List TV} {vs : List AV} {L : List Nat}, OwL σ ts vs L → vs.length = ts.length
  | _, _, _, .nil => rfl
  | _, _, _, .cons h hc hd => by simp [hc.len]
mutual
theorem Ow.of {σ σ' : AH O} (hn : σ.next ≤ σ'.next) : ∀ {t : TV} {v : AV} {L : List Nat}, Ow σ t v L → (∀ b ∈ L, σ'.blk b = σ.blk b) → Ow σ' t v L
  | _, _, _, .im h, _ => .im h
  | _, _, _, .sl h hc hd, hb => .sl (h.of hn fun b hm => hb b (List.mem_append_left _ hm)) (hc.of hn fun b hm => hb b (List.mem_append_right _ hm)) hd
theorem OwL.of {σ σ' : AH O} (hn : σ.next ≤ σ'.next) : ∀ {ts : List TV} {vs : List AV} {L : List Nat}, OwL σ ts vs L → (∀ b ∈ L, σ'.blk b = σ.blk b) → OwL σ' ts vs L
  | _, _, _, .nil, _ => .nil
  | _, _, _, .cons h hc hd, hb => .cons (h.of hn fun b hm => hb b (List.mem_append_left _ hm)) (hc.of hn fun b hm => hb b (List.mem_append_right _ hm)) hd
end
mutual
theorem Ow.lt {σ : AH O} : ∀ {t : TV} {v : AV} {L : List Nat}, Ow σ t v L → ∀ b ∈ L, b < σ.next
  | _, _, _, .im h, b, hb => by simp at hb
  | _, _, _, .sl h hc hd, b, hb => (List.mem_append.1 hb).elim (h.lt b) (hc.lt b)
theorem OwL.lt {σ : AH O} : ∀ {ts : List TV} {vs : List AV} {L : List Nat}, OwL σ ts vs L → ∀ b ∈ L, b < σ.next
  | _, _, _, .nil, b, hb => by simp at hb
  | _, _, _, .cons h hc hd, b, hb => (List.mem_append.1 hb).elim (h.lt b) (hc.lt b)
end
/-- how deep slices lie in slices -/
def TV.deep : TV → Nat → Prop
  | .lf _, _ => True
  | .sl _ _ _ _, 0 => False
  | .sl _ _ _ cs, d + 1 => ∀ t ∈ cs, t.deep d
mutual
/-- what stands in blocks of its own can be frozen -/
theorem Ow.fz {σ : AH O} : ∀ {t : TV} {v : AV} {L : List Nat} {d : Nat}, Ow σ t v L → t.deep d → ∃ v', FZ (d + 1) σ.blk L v v' ∧ Im t v'
  | _, v, _, d, .im h, _ => ⟨v, FZ.flat h.flat, h⟩
  | _, _, _, 0, .sl h hc hd, hdp => by unfold TV.deep at hdp; exact hdp.elim
  | _, _, _, d + 1, .sl h hc hd, hdp => by
    unfold TV.deep at hdp
    obtain ⟨vs', g1, g2⟩ := hc.fz hdp
    obtain ⟨a', k1, k2⟩ := FZ.slP h (fun _ _ => rfl) g1 (by rw [g2.len, hc.len]) hd
    exact ⟨_, k1, .sl k2 g2⟩
theorem OwL.fz {σ : AH O} : ∀ {ts : List TV} {vs : List AV} {L : List Nat} {d : Nat}, OwL σ ts vs L → (∀ t ∈ ts, t.deep d) → ∃ vs', FZL (d + 1) σ.blk L vs vs' ∧ ImL ts vs'
  | _, _, _, d, .nil, _ => ⟨[], FZL.nil, .nil⟩
  | _, _, _, d, .cons h hc hd, hdp => by
    obtain ⟨v', g1, g2⟩ := h.fz (hdp _ List.mem_cons_self)
    obtain ⟨vs', k1, k2⟩ := hc.fz fun t ht => hdp t (List.mem_cons_of_mem _ ht)
    exact ⟨v' :: vs', FZL.cons g1 k1 hd, .cons g2 k2⟩
end
theorem OwL.app {σ : AH O} : ∀ {ts us : List TV} {vs ws : List AV} {L K : List Nat}, OwL σ ts vs L → OwL σ us ws K → (∀ b ∈ L, b ∉ K) → OwL σ (ts ++ us) (vs ++ ws) (L ++ K)
  | _, _, _, _, _, _, .nil, k, _ => k
  | _, _, _, _, _, _, .cons h hc hd, k, hk => by
    rw [List.append_assoc]
    exact .cons h (hc.app k fun b hb => hk b (List.mem_append_right _ hb)) fun b hb hm => (List.mem_append.1 hm).elim (hd b hb) (hk b (List.mem_append_left _ hb))
/-- one of them, and another in its place -/
theorem OwL.split {σ : AH O} : ∀ {ts : List TV} {vs : List AV} {L : List Nat} {i : Nat} {t : TV}, OwL σ ts vs L → ts[i]? = some t →
    ∃ v L1 L2 L3, vs[i]? = some v ∧ Ow σ t v L2 ∧ L = L1 ++ (L2 ++ L3) ∧ (∀ b ∈ L2, b ∉ L1 ∧ b ∉ L3) ∧
      ∀ (σ' : AH O) (t' : TV) (v' : AV) (L' : List Nat), σ.next ≤ σ'.next → (∀ b, b ∈ L1 ∨ b ∈ L3 → σ'.blk b = σ.blk b) → Ow σ' t' v' L' → (∀ b ∈ L', b ∉ L1 ∧ b ∉ L3) → OwL σ' (ts.set i t') (vs.set i v') (L1 ++ (L' ++ L3))
  | _, _, _, i, t, .nil, e => by simp at e
  | _, _, _, 0, t, .cons (L1 := A) (L2 := B) h hc hd, e => by
    simp at e
    subst e
    refine ⟨_, [], A, B, rfl, h, rfl, fun b hb => ⟨by simp, hd b hb⟩, fun σ' t' v' L' hn hb ho hl => ?_⟩
    show OwL σ' _ _ (L' ++ B)
    exact .cons ho (hc.of hn fun b hm => hb b (.inr hm)) fun b hm => (hl b hm).2
  | _, _, _, i + 1, t, .cons (L1 := A) h hc hd, e => by
    obtain ⟨v, L1, L2, L3, g1, g2, rfl, g4, g5⟩ := hc.split (i := i) (by simpa using e)
    refine ⟨v, A ++ L1, L2, L3, by simpa using g1, g2, by simp, fun b hb => ⟨fun hm => ?_, (g4 b hb).2⟩, fun σ' t' v' L' hn hb ho hl => ?_⟩
    · rcases List.mem_append.1 hm with hm | hm
      · exact hd b hm (by simp [hb])
      · exact (g4 b hb).1 hm
    · rw [List.append_assoc]
      refine .cons (h.of hn fun b hm => hb b (.inl (List.mem_append_left _ hm))) (g5 σ' t' v' L' hn (fun b hm => hb b (hm.imp (List.mem_append_right _) id)) ho fun b hm => ⟨fun h1 => (hl b hm).1 (List.mem_append_right _ h1), (hl b hm).2⟩) fun b hm hm2 => ?_
      rcases List.mem_append.1 hm2 with h1 | h1
      · exact hd b hm (by simp [h1])
      · rcases List.mem_append.1 h1 with h1 | h1
        · exact (hl b h1).1 (List.mem_append_left _ hm)
        · exact hd b hm (by simp [h1])
theorem OwL.get {σ : AH O} {ts : List TV} {vs : List AV} {L : List Nat} (h : OwL σ ts vs L) {i : Nat} {t : TV} (e : ts[i]? = some t) : ∃ v L', vs[i]? = some v ∧ Ow σ t v L' ∧ ∀ b ∈ L', b ∈ L := by
  obtain ⟨v, L1, L2, L3, g1, g2, rfl, _, _⟩ := h.split e
  exact ⟨v, L2, g1, g2, fun b hb => by simp [hb]⟩
/-- a leaf is what it is -/
theorem Ow.leaf {σ : AH O} {x v : AV} {L : List Nat} (h : Ow σ (.lf x) v L) : v = x ∧ L = [] := by
  cases h with
  | im h => cases h with | lf h => exact ⟨rfl, rfl⟩
/-- a slice can be read -/
theorem Ow.rd {σ : AH O} {el es n : Nat} {cs : List TV} {v : AV} {L : List Nat} (h : Ow σ (.sl el es n cs) v L) : ∃ a vs L', v = .sl a n ∧ Rd σ es a n vs ∧ OwL σ cs vs L' ∧ (∀ b ∈ L', b ∈ L) ∧ ∀ b ∈ SA.bk a, b ∈ L := by
  cases h with
  | im h => cases h with | sl h hc => exact ⟨_, _, [], rfl, h O σ, .im hc, by simp, by rw [h.bk]; simp⟩
  | sl h hc hd => exact ⟨_, _, _, rfl, h.rd, hc, fun b hb => List.mem_append_right _ hb, fun b hb => List.mem_append_left _ hb⟩
theorem Im.rd {el es n : Nat} {cs : List TV} {v : AV} (h : Im (.sl el es n cs) v) : ∃ a vs, v = .sl a n ∧ Imm es a n vs ∧ ImL cs vs := by
  cases h with | sl h hc => exact ⟨_, _, rfl, h, hc⟩
theorem Im.leaf {x v : AV} (h : Im (.lf x) v) : v = x := by cases h; rfl
/-- leaves alone -/
theorem ImL.ofLeaves : ∀ {xs vs : List AV}, ImL (xs.map TV.lf) vs → vs = xs
  | [], _, h => by cases h; rfl
  | x :: xs, _, h => by
    cases h with
    | cons h hc => rw [h.leaf, hc.ofLeaves]
theorem OwL.ofLeaves {σ : AH O} : ∀ {xs vs : List AV} {L : List Nat}, OwL σ (xs.map TV.lf) vs L → vs = xs ∧ L = []
  | [], _, _, h => by cases h; exact ⟨rfl, rfl⟩
  | x :: xs, _, _, h => by
    cases h with
    | cons h hc hd =>
      obtain ⟨rfl, rfl⟩ := h.leaf
      obtain ⟨rfl, rfl⟩ := hc.ofLeaves
      exact ⟨rfl, rfl⟩
theorem fmt_len {α β : Type} {enc : α → List β} {k : Nat} (hk : ∀ x, (enc x).length = k) : ∀ l : List α, (l.flatMap enc).length = l.length * k
  | [] => by simp
  | x :: l => by rw [List.flatMap_cons, List.length_append, hk, fmt_len hk l, List.length_cons, Nat.succ_mul]; omega
theorem fmt_get {α β : Type} {enc : α → List β} {k : Nat} (hk : ∀ x, (enc x).length = k) : ∀ (l : List α) (i j : Nat), j < k → (l.flatMap enc)[i * k + j]? = (l[i]?).bind fun x => (enc x)[j]?
  | [], i, j, h => by simp
  | x :: l, 0, j, h => by rw [List.flatMap_cons, Nat.zero_mul, Nat.zero_add, List.getElem?_append_left (by rw [hk]; exact h)]; rfl
  | x :: l, i + 1, j, h => by
    rw [List.flatMap_cons, List.getElem?_append_right (by rw [hk, Nat.succ_mul]; omega), hk, show (i + 1) * k + j - k = i * k + j by rw [Nat.succ_mul]; omega, fmt_get hk l i j h]
    simp
theorem OwnS.set {σ σ' : AH O} {el es n : Nat} {a : SA} {cs : List AV} {o : Nat} {v : AV} (h : OwnS σ el es a n cs) {b : Nat} (ha : a = .loc (.n b) 0 es) (hs : σ' = σ.put b (.cells true el (cs.set o v))) : OwnS σ' el es a n (cs.set o v) := by
  subst ha; subst hs
  obtain ⟨k, e1, _, _, h3, h4⟩ := h.wh
  cases e1
  exact OwnS.new (by rw [List.length_set]; exact h.len) (by simp [AH.put]) (by simpa using h4)
theorem set_same {α : Type} {l : List α} {i : Nat} {x : α} (h : l[i]? = some x) : l.set i x = l := by
  apply List.ext_getElem?
  intro j
  rw [List.getElem?_set]
  by_cases c : i = j
  · subst c
    rw [if_pos rfl, if_pos (List.getElem?_eq_some_iff.1 h).1, h]
  · rw [if_neg c]
theorem flat_ints {k : IntKind} (l : List Int) : (l.map (AV.i k)).all AV.flat = true := by simp [AV.flat]
/-- an own slice of leaves -/
theorem Ow.leaves {σ : AH O} {el es n : Nat} {a : SA} {xs : List AV} (h : OwnS σ el es a n xs) (hx : xs.all AV.flat = true) : Ow σ (.sl el es n (xs.map TV.lf)) (.sl a n) (SA.bk a) := by
  have := Ow.sl h.p (OwL.im (ImL.lfs hx)) (by simp)
  simpa using this
theorem OwL.leafSet {σ : AH O} {ts : List TV} {vs : List AV} {L : List Nat} (h : OwL σ ts vs L) {i : Nat} {x y : AV} (e : ts[i]? = some (.lf x)) (hy : y.flat = true) : OwL σ (ts.set i (.lf y)) (vs.set i y) L := by
  obtain ⟨v, L1, L2, L3, g1, g2, rfl, g4, g5⟩ := h.split e
  obtain ⟨rfl, rfl⟩ := g2.leaf
  exact g5 σ (.lf y) y [] (Nat.le_refl _) (fun _ _ => rfl) (.im (.lf hy)) (by simp)
theorem OwL.leafGet {σ : AH O} {ts : List TV} {vs : List AV} {L : List Nat} (h : OwL σ ts vs L) {i : Nat} {x : AV} (e : ts[i]? = some (.lf x)) : vs[i]? = some x := by
  obtain ⟨v, L', g1, g2, _⟩ := h.get e
  rw [g2.leaf.1] at g1; exact g1
/-- the first ones of a block of our own are frozen -/
theorem FZ.pre {d : Nat} {σ : AH O} {H : Nat → Option (Blk O)} {L : List Nat} {el es n k : Nat} {cs cs' : List AV} (hb : σ.blk k = some (.cells true el cs)) (hH : H k = σ.blk k) (hn : n * es ≤ cs.length) (hc : FZL (d + 1) H L (cs.take (n * es)) cs') (hl : cs'.length = n * es) (hd : k ∉ L) :
    FZ (d + 2) H (k :: L) (.sl (.loc (.n k) 0 es) n) (.sl (.loc (.f cs') 0 es) n) ∧ Imm es (.loc (.f cs') 0 es) n cs' := by
  refine ⟨fun σ1 hσ => ?_, Imm.f hl⟩
  have hk : σ1.blk k = some (.cells true el cs) := by rw [hσ k (by simp), hH]; exact hb
  obtain ⟨σ', e1, n1, b1⟩ := hc (σ1.kill k) fun b hb => by
    have : b ≠ k := fun e => hd (e ▸ hb)
    rw [kill_blk, if_neg this]; exact hσ b (by simp [hb])
  refine ⟨σ', ?_, by simpa using n1, fun b => ?_⟩
  · rw [frzV_sl, hk]
    simp only
    rw [Nat.ble_eq_true_of_le (by omega), cond_true, List.drop_zero, e1]; rfl
  · rw [b1, kill_blk]
    by_cases g1 : b = k <;> by_cases g2 : b ∈ L <;> simp [g1, g2]
end Go.Abs
namespace Go.Abs
open Go
variable {O : Type}

/-- a frozen slice of things, each so many cells -/
structure Row {α : Type} (row : α → List TV) (k : Nat) (a : SA) (l : List α) : Prop where
  hk : ∀ x, (row x).length = k
  it : ∃ vs, Imm k a l.length vs ∧ ImL (l.flatMap row) vs
theorem Row.im {α : Type} {row : α → List TV} {k : Nat} {a : SA} {l : List α} (h : Row row k a l) (el : Nat) : Im (.sl el k l.length (l.flatMap row)) (.sl a l.length) := by
  obtain ⟨vs, h1, h2⟩ := h.it; exact .sl h1 h2
theorem Row.bk {α : Type} {row : α → List TV} {k : Nat} {a : SA} {l : List α} (h : Row row k a l) : SA.bk a = [] := by
  obtain ⟨vs, h1, h2⟩ := h.it; exact h1.bk
theorem Row.of {α : Type} {row : α → List TV} {k el n : Nat} {l : List α} {v : AV} (hk : ∀ x, (row x).length = k) (h : Im (.sl el k n (l.flatMap row)) v) (hn : n = l.length) : ∃ a, v = .sl a l.length ∧ Row row k a l := by
  subst hn
  obtain ⟨a, vs, rfl, h1, h2⟩ := h.rd
  exact ⟨a, rfl, hk, vs, h1, h2⟩
theorem Row.nil {α : Type} {row : α → List TV} {k : Nat} (hk : ∀ x, (row x).length = k) : Row row k .nil [] := ⟨hk, [], Imm.nil k, .nil⟩
/-- one of them -/
theorem Row.get {α : Type} {row : α → List TV} {k : Nat} {a : SA} {l : List α} (h : Row row k a l) {i : Nat} {x : α} (hx : l[i]? = some x) :
    ∃ b o us, a = .loc b o k ∧ ImL (row x) us ∧ ∀ (O : Type) (σ : AH O) (j : Nat), j < k → σ.ld b (o + i * k + j) = us[j]? := by
  obtain ⟨vs, h1, h2⟩ := h.it
  have hi := (List.getElem?_eq_some_iff.1 hx).1
  obtain ⟨b, o, rfl, _⟩ := (h1 Unit ⟨fun _ => none, 0⟩).ref hi
  have hlen := h1.len
  have hle : i * k + k ≤ l.length * k := by rw [← Nat.succ_mul]; exact Nat.mul_le_mul_right _ hi
  refine ⟨b, o, (vs.drop (i * k)).take k, rfl, ?_, fun O σ j hj => ?_⟩
  · have := (h2.drop (i * k)).take k
    have e : ((l.flatMap row).drop (i * k)).take k = row x := by
      apply List.ext_getElem?
      intro j
      rw [List.getElem?_take]
      split
      · rename_i hj
        rw [List.getElem?_drop, fmt_get h.hk _ _ _ hj, hx]; rfl
      · rename_i hj
        rw [List.getElem?_eq_none]
        rw [h.hk]; omega
    rw [e] at this; exact this
  · obtain ⟨b', o', e, h3⟩ := (h1 O σ).ref hi
    cases e
    rw [h3 j hj, List.getElem?_take, if_pos hj, List.getElem?_drop]
/-- all cells -/
theorem Row.all {α : Type} {row : α → List TV} {k : Nat} {a : SA} {l : List α} (h : Row row k a l) : ∃ vs, vs.length = l.length * k ∧ ImL (l.flatMap row) vs ∧ ∀ (O : Type) (σ : AH O), σ.rdSl a l.length k = some vs := by
  obtain ⟨vs, h1, h2⟩ := h.it
  exact ⟨vs, h1.len, h2, fun O σ => (h1 O σ).rdSl⟩
/-- a part -/
theorem flat_drop {α : Type} {row : α → List TV} {k : Nat} (hk : ∀ x, (row x).length = k) : ∀ (l : List α) (i : Nat), (l.drop i).flatMap row = (l.flatMap row).drop (i * k)
  | l, 0 => by simp
  | [], i + 1 => by simp
  | x :: l, i + 1 => by
    rw [List.drop_succ_cons, flat_drop hk l i, List.flatMap_cons, List.drop_append, List.drop_eq_nil_of_le (as := row x) (by rw [hk, Nat.succ_mul]; omega), hk, Nat.succ_mul, Nat.add_sub_cancel]; rfl
theorem flat_take {α : Type} {row : α → List TV} {k : Nat} (hk : ∀ x, (row x).length = k) : ∀ (l : List α) (i : Nat), (l.take i).flatMap row = (l.flatMap row).take (i * k)
  | l, 0 => by simp
  | [], i + 1 => by simp
  | x :: l, i + 1 => by
    rw [List.take_succ_cons, List.flatMap_cons, List.flatMap_cons, flat_take hk l i, List.take_append, hk, List.take_of_length_le (l := row x) (by rw [hk, Nat.succ_mul]; omega), Nat.succ_mul, Nat.add_sub_cancel]
theorem Row.part {α : Type} {row : α → List TV} {k : Nat} {a : SA} {l : List α} (h : Row row k a l) {lo n : Nat} (hn : lo + n ≤ l.length) : ∃ a', a.adv lo k = some a' ∧ Row row k a' ((l.drop lo).take n) := by
  obtain ⟨vs, h1, h2⟩ := h.it
  obtain ⟨a', g1, g2⟩ := h1.adv hn
  refine ⟨a', g1, h.hk, (vs.drop (lo * k)).take (n * k), ?_, ?_⟩
  · have : ((l.drop lo).take n).length = n := by simp; omega
    rw [this]; exact g2
  · rw [flat_take h.hk, flat_drop h.hk]
    exact (h2.drop _).take _
/-! ### Numbers -/
def int1 (k : IntKind) (n : Int) : List TV := [.lf (.i k n)]
theorem int1_len (k : IntKind) (n : Int) : (int1 k n).length = 1 := rfl
theorem int1_flat (k : IntKind) : ∀ l : List Int, l.flatMap (int1 k) = (l.map (AV.i k)).map TV.lf
  | [] => rfl
  | x :: l => by rw [List.flatMap_cons, int1_flat k l]; rfl
abbrev Ints (k : IntKind) (a : SA) (l : List Int) : Prop := Row (int1 k) 1 a l
theorem Ints.mk {k : IntKind} {a : SA} {l : List Int} (h : Imm 1 a l.length (l.map (AV.i k))) : Ints k a l := ⟨int1_len k, _, h, by rw [int1_flat]; exact ImL.lfs (flat_ints l)⟩
theorem Ints.imm {k : IntKind} {a : SA} {l : List Int} (h : Ints k a l) : Imm 1 a l.length (l.map (AV.i k)) := by
  obtain ⟨vs, h1, h2⟩ := h.it
  rw [int1_flat] at h2
  rw [h2.ofLeaves] at h1; exact h1
theorem Ints.at {k : IntKind} {a : SA} {l : List Int} (h : Ints k a l) {i : Nat} {x : Int} (hx : l[i]? = some x) : ∃ b o, a = .loc b o 1 ∧ ∀ (O : Type) (σ : AH O), σ.ld b (o + i) = some (.i k x) := by
  obtain ⟨b, o, us, e, h1, h2⟩ := h.get hx
  refine ⟨b, o, e, fun O σ => ?_⟩
  have := h2 O σ 0 (by decide)
  rw [Nat.mul_one, Nat.add_zero] at this
  rw [this]
  cases h1 with
  | cons h1 hc => rw [h1.leaf]; rfl

/-! ### What is built up -/
structure Bld {α : Type} (σ : AH O) (el k : Nat) (row : α → List TV) (a : SA) (l : List α) : Prop where
  hk : ∀ x, (row x).length = k
  it : ∃ vs, OwnS σ el k a l.length vs ∧ ImL (l.flatMap row) vs
section bld
variable {α : Type} {σ : AH O} {el k : Nat} {row : α → List TV} {a : SA} {l : List α}
theorem Bld.nil (σ : AH O) (el : Nat) (hk : ∀ x, (row x).length = k) : Bld σ el k row .nil [] := ⟨hk, [], OwnS.nil _ _ _, .nil⟩
theorem Bld.z (σ : AH O) (el : Nat) (hk : ∀ x, (row x).length = k) : Bld σ el k row .z [] := ⟨hk, [], OwnS.z _ _ _, .nil⟩
theorem Bld.of {σ' : AH O} (h : Bld σ el k row a l) (hn : σ.next ≤ σ'.next) (hb : ∀ b ∈ SA.bk a, σ'.blk b = σ.blk b) : Bld σ' el k row a l := by
  obtain ⟨vs, h1, h2⟩ := h.it; exact ⟨h.hk, vs, h1.of hn hb, h2⟩
theorem Bld.lt (h : Bld σ el k row a l) : ∀ b ∈ SA.bk a, b < σ.next := by obtain ⟨vs, h1, h2⟩ := h.it; exact h1.lt
theorem Bld.ext {σ' : AH O} (h : Bld σ el k row a l) (hE : Ext σ σ') : Bld σ' el k row a l := h.of hE.next fun b hb => hE.blk b (h.lt b hb)
/-- so many more -/
theorem Bld.app (h : Bld σ el k row a l) {nid : Nat} {new : List AV} {m : List α} (hne : nid ∉ SA.bk a) (hlt : nid < σ.next) (hm : ImL (m.flatMap row) new) :
    Ok (σ.appSl nid el k a l.length m.length new) fun r => ∃ a', r.1 = .sl a' (l.length + m.length) ∧ Bld r.2 el k row a' (l ++ m) ∧ r.2.next = σ.next ∧ (∀ b, b ≠ nid → b ∉ SA.bk a → r.2.blk b = σ.blk b) ∧ ∀ b ∈ SA.bk a', b = nid := by
  obtain ⟨vs, h1, h2⟩ := h.it
  refine (app_ok h1 hne hlt (by rw [hm.len, fmt_len h.hk])).mono ?_
  rintro ⟨q, σ'⟩ ⟨a', g1, g2, g3, g4, g5⟩
  refine ⟨a', g1, ⟨h.hk, vs ++ new, ?_, ?_⟩, g3, g4, g5⟩
  · rw [List.length_append]; exact g2
  · rw [List.flatMap_append]; exact h2.app hm
theorem Bld.app1 (h : Bld σ el k row a l) {nid : Nat} {new : List AV} {x : α} (hne : nid ∉ SA.bk a) (hlt : nid < σ.next) (hm : ImL (row x) new) :
    Ok (σ.appSl nid el k a l.length 1 new) fun r => ∃ a', r.1 = .sl a' (l.length + 1) ∧ Bld r.2 el k row a' (l ++ [x]) ∧ r.2.next = σ.next ∧ (∀ b, b ≠ nid → b ∉ SA.bk a → r.2.blk b = σ.blk b) ∧ ∀ b ∈ SA.bk a', b = nid :=
  h.app (m := [x]) hne hlt (by simpa using hm)
/-- frozen -/
theorem Bld.fz {d : Nat} {H : Nat → Option (Blk O)} (h : Bld σ el k row a l) (hH : ∀ b ∈ SA.bk a, H b = σ.blk b) : ∃ a', FZ (d + 2) H (SA.bk a) (.sl a l.length) (.sl a' l.length) ∧ Row row k a' l := by
  obtain ⟨vs, h1, h2⟩ := h.it
  obtain ⟨a', g1, g2⟩ := FZ.sl (d := d) (H := H) (L := []) h1 hH (FZL.flat h2.flat) rfl (by simp)
  rw [List.append_nil] at g1
  exact ⟨a', g1, h.hk, vs, g2, h2⟩
theorem Bld.rd (h : Bld σ el k row a l) : ∃ vs, Rd σ k a l.length vs ∧ ImL (l.flatMap row) vs := by
  obtain ⟨vs, h1, h2⟩ := h.it; exact ⟨vs, h1.rd, h2⟩
/-- one of them is read -/
theorem Bld.get (h : Bld σ el k row a l) {i : Nat} {x : α} (hx : l[i]? = some x) : ∃ b us, a = .loc (.n b) 0 k ∧ b < σ.next ∧ ImL (row x) us ∧ (∀ j, j < k → σ.ld (.n b) (i * k + j) = us[j]?) := by
  obtain ⟨vs, h1, h2⟩ := h.it
  have hi := (List.getElem?_eq_some_iff.1 hx).1
  obtain ⟨b, rfl, hb, hlt⟩ := h1.loc (by omega)
  have hlen := h1.len
  refine ⟨b, (vs.drop (i * k)).take k, rfl, hlt, ?_, fun j hj => ?_⟩
  · have := (h2.drop (i * k)).take k
    have e : ((l.flatMap row).drop (i * k)).take k = row x := by
      apply List.ext_getElem?
      intro j
      rw [List.getElem?_take]
      split
      · rename_i hj
        rw [List.getElem?_drop, fmt_get h.hk _ _ _ hj, hx]; rfl
      · rename_i hj
        rw [List.getElem?_eq_none]
        rw [h.hk]; omega
    rw [e] at this; exact this
  · rw [s_ld, hb, s_ldM, List.getElem?_take, if_pos hj, List.getElem?_drop]
end bld
/-- what a function gives back: a frozen value; the heap is as it was -/
theorem frz_row {α : Type} {s : Sm O} {xs : List AV} {σ : AH O} {el k : Nat} {row : α → List TV} {l : List α} (h : Ok (s xs σ) fun r => ∃ a, r.1 = .sl a l.length ∧ Bld r.2 el k row a l ∧ (∀ b ∈ SA.bk a, σ.next ≤ b) ∧ Ext σ r.2) :
    Ok (frz s xs σ) fun r => (∃ a, r.1 = .sl a l.length ∧ Row row k a l) ∧ Ext σ r.2 := by
  refine frz_ok (Q := fun v => ∃ a, v = .sl a l.length ∧ Row row k a l) (h.mono ?_)
  rintro ⟨v, σ'⟩ ⟨a, rfl, h1, h2, h3⟩
  obtain ⟨a', g1, g2⟩ := h1.fz (d := 6) (H := σ'.blk) fun _ _ => rfl
  exact ⟨_, _, g1, h2, h3, a', rfl, g2⟩
theorem Bld.new {α : Type} {σ : AH O} {el k b : Nat} {row : α → List TV} (hk : ∀ x, (row x).length = k) (h : σ.blk b = some (.cells true el [])) (hb : b < σ.next) : Bld σ el k row (.loc (.n b) 0 k) [] := ⟨hk, [], OwnS.new (by simp) h hb, .nil⟩
theorem Row.isNil {α : Type} {row : α → List TV} {k : Nat} {a : SA} {l : List α} (h : Row row k a l) (hn : SA.isNil a = true) : a = .nil ∧ l = [] := by
  obtain ⟨vs, h1, _⟩ := h.it
  have := (h1 Unit ⟨fun _ => none, 0⟩).wh
  cases a with
  | nil => exact ⟨rfl, List.eq_nil_of_length_eq_zero this.1⟩
  | z => cases hn
  | loc b o e => cases hn
/-- a frozen slice is given on -/
theorem fz_row {α : Type} {row : α → List TV} {k d : Nat} {H : Nat → Option (Blk O)} {a : SA} {l : List α} (h : Row row k a l) : FZ (d + 1) H [] (.sl a l.length) (.sl a l.length) := FZ.flat (h.im 0).flat
end Go.Abs
namespace Go.Abs
open Go
variable {O : Type}

/-- new blocks alone stand for these -/
structure New (σ σ' : AH O) (ts : List TV) (vs : List AV) : Prop where
  e : Ext σ σ'
  it : ∃ L, OwL σ' ts vs L ∧ ∀ b ∈ L, σ.next ≤ b
theorem New.im {σ σ' : AH O} {ts : List TV} {vs : List AV} (h : ImL ts vs) (e : Ext σ σ') : New σ σ' ts vs := ⟨e, [], OwL.im h, by simp⟩
theorem New.nil {σ σ' : AH O} (e : Ext σ σ') : New σ σ' [] [] := ⟨e, [], .nil, by simp⟩
theorem New.ext {σ0 σ σ' σ'' : AH O} {ts : List TV} {vs : List AV} (h : New σ σ' ts vs) (e0 : Ext σ0 σ) (e : Ext σ' σ'') : New σ0 σ'' ts vs := by
  obtain ⟨h1, L, h2, h3⟩ := h
  exact ⟨(e0.trans h1).trans e, L, h2.of e.next fun b hb => e.blk b (h2.lt b hb), fun b hb => Nat.le_trans e0.next (h3 b hb)⟩
theorem New.keep {σ0 σ σ' σ'' : AH O} {ts : List TV} {vs : List AV} (h : New σ σ' ts vs) (e0 : σ0.next ≤ σ.next) (e : Ext σ0 σ'') (hn : σ'.next ≤ σ''.next) (hb : ∀ b, σ.next ≤ b → b < σ'.next → σ''.blk b = σ'.blk b) : New σ0 σ'' ts vs := by
  obtain ⟨h1, L, h2, h3⟩ := h
  exact ⟨e, L, h2.of hn fun b hm => hb b (h3 b hm) (h2.lt b hm), fun b hm => Nat.le_trans e0 (h3 b hm)⟩
/-- one made behind the other -/
theorem New.app {σ σ1 σ2 : AH O} {ts us : List TV} {vs ws : List AV} (h : New σ σ1 ts vs) (k : New σ1 σ2 us ws) : New σ σ2 (ts ++ us) (vs ++ ws) := by
  obtain ⟨h1, L, h2, h3⟩ := h
  obtain ⟨k1, K, k2, k3⟩ := k
  refine ⟨h1.trans k1, L ++ K, (h2.of k1.next fun b hb => k1.blk b (h2.lt b hb)).app k2 (fun b hb hm => by have := h2.lt b hb; have := k3 b hm; omega), fun b hb => ?_⟩
  rcases List.mem_append.1 hb with hb | hb
  · exact h3 b hb
  · exact Nat.le_trans h1.next (k3 b hb)
theorem New.cons {σ σ1 σ2 : AH O} {t : TV} {us : List TV} {v : AV} {ws : List AV} (h : New σ σ1 [t] [v]) (k : New σ1 σ2 us ws) : New σ σ2 (t :: us) (v :: ws) := h.app k
/-- a plain cell ahead -/
theorem New.lf {σ σ' : AH O} {x : AV} {us : List TV} {ws : List AV} (hx : x.flat = true) (k : New σ σ' us ws) : New σ σ' (.lf x :: us) (x :: ws) :=
  New.cons (New.im (σ := σ) (σ' := σ) (.cons (.lf hx) .nil) (Ext.refl _)) k
theorem New.still {σ σ' σ'' : AH O} {ts : List TV} {vs : List AV} (h : New σ σ' ts vs) (hn : σ'.next ≤ σ''.next) (hb : ∀ b, σ.next ≤ b → b < σ'.next → σ''.blk b = σ'.blk b) : ∃ L, OwL σ'' ts vs L ∧ ∀ b ∈ L, σ.next ≤ b := by
  obtain ⟨h1, L, h2, h3⟩ := h
  exact ⟨L, h2.of hn fun b hm => hb b (h3 b hm) (h2.lt b hm), h3⟩
/-- a slice of our own, made here -/
theorem New.sl {σ σ' : AH O} {m el es n : Nat} {a : SA} {cs : List TV} {vs : List AV} (e : Ext σ σ') (o : OwnP σ' el es a n vs) (k : ∃ L, OwL σ' cs vs L ∧ ∀ b ∈ L, m ≤ b) (ha : ∀ b ∈ SA.bk a, σ.next ≤ b ∧ b < m) (hm : σ.next ≤ m) : New σ σ' [.sl el es n cs] [.sl a n] := by
  obtain ⟨L, k2, k3⟩ := k
  refine ⟨e, (SA.bk a ++ L) ++ [], .cons (.sl o k2 fun b hb hl => by have := ha b hb; have := k3 b hl; omega) .nil (by simp), fun b hb => ?_⟩
  simp only [List.append_nil] at hb
  rcases List.mem_append.1 hb with hb | hb
  · exact (ha b hb).1
  · exact Nat.le_trans hm (k3 b hb)
theorem New.ints {σ σ' : AH O} {el n : Nat} {a : SA} {xs : List AV} (o : OwnS σ' el 1 a n xs) (hx : xs.all AV.flat = true) (e : Ext σ σ') (ha : ∀ b ∈ SA.bk a, σ.next ≤ b) : New σ σ' [.sl el 1 n (xs.map TV.lf)] [.sl a n] :=
  ⟨e, SA.bk a ++ [], .cons (Ow.leaves o hx) .nil (by simp), fun b hb => ha b (by simpa using hb)⟩
/-- what is given back is frozen -/
theorem frz_agg {s : Sm O} {xs : List AV} {σ : AH O} {ts : List TV} (hd : ∀ t ∈ ts, t.deep 6) (h : Ok (s xs σ) fun r => ∃ vs, r.1 = .agg vs ∧ New σ r.2 ts vs) : Ok (frz s xs σ) fun r => (∃ vs, r.1 = .agg vs ∧ ImL ts vs) ∧ Ext σ r.2 := by
  refine frz_ok (Q := fun v => ∃ vs, v = .agg vs ∧ ImL ts vs) (h.mono ?_)
  rintro ⟨v, σ'⟩ ⟨vs, rfl, h1, L, h2, h3⟩
  obtain ⟨vs', g1, g2⟩ := h2.fz (d := 6) hd
  exact ⟨.agg vs', L, FZ.agg g1, h3, h1, vs', rfl, g2⟩
theorem frz_aggs {s : Sm O} {xs : List AV} {σ : AH O} {ts : List TV} {rest : List AV} (hd : ∀ t ∈ ts, t.deep 5) (hr : rest.all AV.flat = true) (h : Ok (s xs σ) fun r => ∃ vs, r.1 = .tup (.agg vs :: rest) ∧ New σ r.2 ts vs) : Ok (frz s xs σ) fun r => (∃ vs, r.1 = .tup (.agg vs :: rest) ∧ ImL ts vs) ∧ Ext σ r.2 := by
  refine frz_ok (Q := fun v => ∃ vs, v = .tup (.agg vs :: rest) ∧ ImL ts vs) (h.mono ?_)
  rintro ⟨v, σ'⟩ ⟨vs, rfl, h1, L, h2, h3⟩
  obtain ⟨vs', g1, g2⟩ := h2.fz (d := 5) hd
  have := FZL.cons (FZ.agg g1) (FZL.flat (H := σ'.blk) hr) (by simp)
  rw [List.append_nil] at this
  exact ⟨.tup (.agg vs' :: rest), L, FZ.tup this, h3, h1, vs', rfl, g2⟩
theorem frz_sl {s : Sm O} {xs : List AV} {σ : AH O} {t : TV} (hd : t.deep 7) (h : Ok (s xs σ) fun r => New σ r.2 [t] [r.1]) : Ok (frz s xs σ) fun r => Im t r.1 ∧ Ext σ r.2 := by
  refine frz_ok (Q := fun v => Im t v) (h.mono ?_)
  rintro ⟨v, σ'⟩ ⟨h1, L, h2, h3⟩
  cases h2 with
  | cons h2 hc hd2 =>
    cases hc
    obtain ⟨v', g1, g2⟩ := h2.fz (d := 7) hd
    exact ⟨v', _, g1, fun b hb => h3 b (by simp [hb]), h1, g2⟩

theorem OwL.drop {σ : AH O} : ∀ {ts : List TV} {vs : List AV} {L : List Nat} (n : Nat), OwL σ ts vs L → ∃ L', OwL σ (ts.drop n) (vs.drop n) L' ∧ ∀ c ∈ L', c ∈ L
  | _, _, L, 0, h => ⟨L, by simpa using h, fun _ h => h⟩
  | _, _, _, n + 1, .nil => ⟨[], .nil, by simp⟩
  | _, _, _, n + 1, .cons h hc hd => by
    obtain ⟨L', g1, g2⟩ := hc.drop n
    exact ⟨L', by simpa using g1, fun c hm => List.mem_append_right _ (g2 c hm)⟩
theorem OwL.take {σ : AH O} : ∀ {ts : List TV} {vs : List AV} {L : List Nat} (n : Nat), OwL σ ts vs L → ∃ L', OwL σ (ts.take n) (vs.take n) L' ∧ ∀ c ∈ L', c ∈ L
  | _, _, _, 0, h => ⟨[], by simpa using OwL.nil, by simp⟩
  | _, _, _, n + 1, .nil => ⟨[], by simpa using OwL.nil, by simp⟩
  | _, _, _, n + 1, .cons (L1 := A) h hc hd => by
    obtain ⟨L', g1, g2⟩ := hc.take n
    refine ⟨A ++ L', by simpa using OwL.cons h g1 (fun b hb hm => hd b hb (g2 b hm)), fun c hm => ?_⟩
    rcases List.mem_append.1 hm with hm | hm
    · exact List.mem_append_left _ hm
    · exact List.mem_append_right _ (g2 c hm)
theorem Bld.out {α : Type} {σ σ' : AH O} {el k : Nat} {row : α → List TV} {a : SA} {l : List α} (h : Bld σ' el k row a l) (e : Ext σ σ') (ha : ∀ b ∈ SA.bk a, σ.next ≤ b) : New σ σ' [.sl el k l.length (l.flatMap row)] [.sl a l.length] := by
  obtain ⟨vs, h1, h2⟩ := h.it
  exact ⟨e, (SA.bk a ++ []) ++ [], .cons (.sl h1.p (OwL.im h2) (by simp)) .nil (by simp), fun b hb => ha b (by simpa using hb)⟩
/-! ### A slice that is built up, its parts in blocks of their own -/
structure BldO {α : Type} (base : Nat) (σ : AH O) (el k : Nat) (row : α → List TV) (a : SA) (l : List α) : Prop where
  hk : ∀ x, (row x).length = k
  it : ∃ vs L, OwnP σ el k a l.length vs ∧ OwL σ (l.flatMap row) vs L ∧ (∀ b ∈ SA.bk a, b ∉ L) ∧ ∀ b ∈ SA.bk a ++ L, base ≤ b
section bldo
variable {α : Type} {base : Nat} {σ : AH O} {el k : Nat} {row : α → List TV} {a : SA} {l : List α}
theorem BldO.nil (base : Nat) (σ : AH O) (el : Nat) (hk : ∀ x, (row x).length = k) : BldO base σ el k row .nil [] := ⟨hk, [], [], (OwnS.nil _ _ _).p, .nil, by simp [SA.bk], by simp [SA.bk]⟩
theorem BldO.z (base : Nat) (σ : AH O) (el : Nat) (hk : ∀ x, (row x).length = k) : BldO base σ el k row .z [] := ⟨hk, [], [], (OwnS.z _ _ _).p, .nil, by simp [SA.bk], by simp [SA.bk]⟩
theorem BldO.new {b : Nat} (hk : ∀ x, (row x).length = k) (h : σ.blk b = some (.cells true el [])) (hb : b < σ.next) (h0 : base ≤ b) : BldO base σ el k row (.loc (.n b) 0 k) [] := ⟨hk, [], [], (OwnS.new (by simp) h hb).p, .nil, by simp, by simp [SA.bk]; exact h0⟩
theorem BldO.low (h : BldO base σ el k row a l) {base' : Nat} (hb : base' ≤ base) : BldO base' σ el k row a l := by
  obtain ⟨hk, vs, L, h1, h2, h3, h4⟩ := h
  exact ⟨hk, vs, L, h1, h2, h3, fun b hm => Nat.le_trans hb (h4 b hm)⟩
/-- others may turn -/
theorem BldO.keep {σ' : AH O} (h : BldO base σ el k row a l) (hn : σ.next ≤ σ'.next) (hb : ∀ b, base ≤ b → b < σ.next → σ'.blk b = σ.blk b) : BldO base σ' el k row a l := by
  obtain ⟨hk, vs, L, h1, h2, h3, h4⟩ := h
  exact ⟨hk, vs, L, h1.of hn fun b hm => hb b (h4 b (List.mem_append_left _ hm)) (h1.lt b hm), h2.of hn fun b hm => hb b (h4 b (List.mem_append_right _ hm)) (h2.lt b hm), h3, h4⟩
theorem BldO.ext {σ' : AH O} (h : BldO base σ el k row a l) (e : Ext σ σ') : BldO base σ' el k row a l := h.keep e.next fun b _ hb => e.blk b hb
theorem BldO.bk (h : BldO base σ el k row a l) : ∀ b ∈ SA.bk a, base ≤ b ∧ b < σ.next := by
  obtain ⟨hk, vs, L, h1, h2, h3, h4⟩ := h
  exact fun b hb => ⟨h4 b (by simp [hb]), h1.lt b hb⟩
/-- so many more, made behind it -/
theorem BldO.app {σ2 σ3 : AH O} {m : List α} {new : List AV} {nid : Nat} (h : BldO base σ el k row a l) (hb : base ≤ σ.next) (n : New σ σ2 (m.flatMap row) new) (e : Ext σ2 σ3) (h1 : σ2.next ≤ nid) (h2 : nid < σ3.next) :
    Ok (σ3.appSl nid el k a l.length m.length new) fun r => ∃ a', r.1 = .sl a' (l.length + m.length) ∧ BldO base r.2 el k row a' (l ++ m) ∧ r.2.next = σ3.next ∧ (∀ b, b ≠ nid → b ∉ SA.bk a → r.2.blk b = σ3.blk b) ∧ ∀ b ∈ SA.bk a', b = nid ∨ b ∈ SA.bk a := by
  obtain ⟨hk, vs, L, p1, p2, p3, p4⟩ := h
  obtain ⟨e1, K, n1, n2⟩ := n
  have E := e1.trans e
  have q1 : OwnP σ3 el k a l.length vs := p1.of E.next fun b hm => E.blk b (p1.lt b hm)
  have q2 : OwL σ3 (l.flatMap row) vs L := p2.of E.next fun b hm => E.blk b (p2.lt b hm)
  have q3 : OwL σ3 (m.flatMap row) new K := n1.of e.next fun b hm => e.blk b (n1.lt b hm)
  have len := e1.next
  refine (app_okP q1 (fun hm => by have := p1.lt _ hm; omega) h2 (by rw [n1.len, fmt_len hk])).mono ?_
  rintro ⟨q, σ4⟩ ⟨a', g1, g2, g3, g4, g5⟩
  simp only at g1 g2 g3 g4
  have all := q2.app q3 fun b hb hm => by have := p2.lt b hb; have := n2 b hm; omega
  refine ⟨a', g1, ⟨hk, vs ++ new, L ++ K, ?_, ?_, fun b hb hm => ?_, fun b hb => ?_⟩, g3, g4, fun b hb => .inl (g5 b hb)⟩
  · rw [List.length_append]; exact g2
  · rw [List.flatMap_append]
    refine all.of (by show σ3.next ≤ σ4.next; omega) fun b hb => ?_
    rcases List.mem_append.1 hb with hb | hb
    · exact g4 b (by have := p2.lt b hb; omega) fun hm => p3 b hm hb
    · exact g4 b (by have := n1.lt b hb; omega) fun hm => by have := p1.lt b hm; have := n2 b hb; omega
  · have := g5 b hb
    rcases List.mem_append.1 hm with hm | hm
    · have := p2.lt b hm; omega
    · have := n1.lt b hm; omega
  · rcases List.mem_append.1 hb with hb | hb
    · have := g5 b hb; omega
    · rcases List.mem_append.1 hb with hb | hb
      · exact p4 b (by simp [hb])
      · have := n2 b hb; omega
theorem BldO.app1 {σ2 σ3 : AH O} {x : α} {new : List AV} {nid : Nat} (h : BldO base σ el k row a l) (hb : base ≤ σ.next) (n : New σ σ2 (row x) new) (e : Ext σ2 σ3) (h1 : σ2.next ≤ nid) (h2 : nid < σ3.next) :
    Ok (σ3.appSl nid el k a l.length 1 new) fun r => ∃ a', r.1 = .sl a' (l.length + 1) ∧ BldO base r.2 el k row a' (l ++ [x]) ∧ r.2.next = σ3.next ∧ (∀ b, b ≠ nid → b ∉ SA.bk a → r.2.blk b = σ3.blk b) ∧ ∀ b ∈ SA.bk a', b = nid ∨ b ∈ SA.bk a :=
  h.app (m := [x]) hb (by simpa using n) e h1 h2
/-- what was made stands there, not under this number -/
theorem New.at_ {σa σb σc : AH O} {ts : List TV} {vs : List AV} {p nid : Nat} (h : New σa σb ts vs) (hn : σb.next ≤ σc.next) (hf : ∀ b, σa.next ≤ b → b < σb.next → σc.blk b = σb.blk b) (h0 : p ≤ σa.next) (hnid : nid < σa.next ∨ σb.next ≤ nid) : ∃ K, OwL σc ts vs K ∧ ∀ b ∈ K, p ≤ b ∧ b ≠ nid := by
  obtain ⟨h1, L, h2, h3⟩ := h
  exact ⟨L, h2.of hn fun b hm => hf b (h3 b hm) (h2.lt b hm), fun b hm => ⟨Nat.le_trans h0 (h3 b hm), fun e => by have := h3 b hm; have := h2.lt b hm; omega⟩⟩
theorem BldO.app' {σ3 : AH O} {m : List α} {new : List AV} {nid : Nat} (h : BldO base σ el k row a l) (hb : base ≤ σ.next) (hn : σ.next ≤ σ3.next) (hf : ∀ b, base ≤ b → b < σ.next → σ3.blk b = σ.blk b) (n : ∃ K, OwL σ3 (m.flatMap row) new K ∧ ∀ b ∈ K, σ.next ≤ b ∧ b ≠ nid) (h1 : σ.next ≤ nid) (h2 : nid < σ3.next) :
    Ok (σ3.appSl nid el k a l.length m.length new) fun r => ∃ a', r.1 = .sl a' (l.length + m.length) ∧ BldO base r.2 el k row a' (l ++ m) ∧ r.2.next = σ3.next ∧ (∀ b, b ≠ nid → b ∉ SA.bk a → r.2.blk b = σ3.blk b) ∧ ∀ b ∈ SA.bk a', b = nid ∨ b ∈ SA.bk a := by
  obtain ⟨K, q3, n2⟩ := n
  obtain ⟨hk, vs, L, p1, p2, p3, p4⟩ := h
  have q1 : OwnP σ3 el k a l.length vs := p1.of hn fun b hm => hf b (p4 b (by simp [hm])) (p1.lt b hm)
  have q2 : OwL σ3 (l.flatMap row) vs L := p2.of hn fun b hm => hf b (p4 b (by simp [hm])) (p2.lt b hm)
  refine (app_okP q1 (fun hm => by have := p1.lt _ hm; omega) h2 (by rw [q3.len, fmt_len hk])).mono ?_
  rintro ⟨q, σ4⟩ ⟨a', g1, g2, g3, g4, g5⟩
  simp only at g1 g2 g3 g4
  have all := q2.app q3 fun b hb hm => by have := p2.lt b hb; have := n2 b hm; omega
  refine ⟨a', g1, ⟨hk, vs ++ new, L ++ K, ?_, ?_, fun b hb hm => ?_, fun b hb => ?_⟩, g3, g4, fun b hb => .inl (g5 b hb)⟩
  · rw [List.length_append]; exact g2
  · rw [List.flatMap_append]
    refine all.of (by show σ3.next ≤ σ4.next; omega) fun b hb => ?_
    rcases List.mem_append.1 hb with hb | hb
    · exact g4 b (by have := p2.lt b hb; omega) fun hm => p3 b hm hb
    · exact g4 b (n2 b hb).2 fun hm => by have := p1.lt b hm; have := n2 b hb; omega
  · have := g5 b hb
    rcases List.mem_append.1 hm with hm | hm
    · have := p2.lt b hm; omega
    · have := (n2 b hm).2; omega
  · rcases List.mem_append.1 hb with hb | hb
    · have := g5 b hb; omega
    · rcases List.mem_append.1 hb with hb | hb
      · exact p4 b (by simp [hb])
      · have := n2 b hb; omega
/-- the same, under a number that was kept free -/
theorem BldO.appR {σ3 : AH O} {m : List α} {new : List AV} {nid base0 : Nat} (h : BldO base σ el k row a l) (hb0 : base0 ≤ base) (h0 : base0 ≤ nid) (hb : base ≤ σ.next) (hn : σ.next ≤ σ3.next) (hf : ∀ b, base ≤ b → b < σ.next → σ3.blk b = σ.blk b) (n : ∃ K, OwL σ3 (m.flatMap row) new K ∧ ∀ b ∈ K, σ.next ≤ b ∧ b ≠ nid) (h1 : nid < base ∨ σ.next ≤ nid) (h2 : nid < σ3.next) :
    Ok (σ3.appSl nid el k a l.length m.length new) fun r => ∃ a', r.1 = .sl a' (l.length + m.length) ∧ BldO base0 r.2 el k row a' (l ++ m) ∧ r.2.next = σ3.next ∧ (∀ b, b ≠ nid → b ∉ SA.bk a → r.2.blk b = σ3.blk b) ∧ ∀ b ∈ SA.bk a', b = nid ∨ b ∈ SA.bk a := by
  obtain ⟨K, q3, n2⟩ := n
  obtain ⟨hk, vs, L, p1, p2, p3, p4⟩ := h
  have q1 : OwnP σ3 el k a l.length vs := p1.of hn fun b hm => hf b (p4 b (by simp [hm])) (p1.lt b hm)
  have q2 : OwL σ3 (l.flatMap row) vs L := p2.of hn fun b hm => hf b (p4 b (by simp [hm])) (p2.lt b hm)
  refine (app_okP q1 (fun hm => by have := p1.lt _ hm; have := p4 _ (List.mem_append_left _ hm); omega) h2 (by rw [q3.len, fmt_len hk])).mono ?_
  rintro ⟨q, σ4⟩ ⟨a', g1, g2, g3, g4, g5⟩
  simp only at g1 g2 g3 g4
  have all := q2.app q3 fun b hb hm => by have := p2.lt b hb; have := n2 b hm; omega
  refine ⟨a', g1, ⟨hk, vs ++ new, L ++ K, ?_, ?_, fun b hb hm => ?_, fun b hb => ?_⟩, g3, g4, fun b hb => .inl (g5 b hb)⟩
  · rw [List.length_append]; exact g2
  · rw [List.flatMap_append]
    refine all.of (by show σ3.next ≤ σ4.next; omega) fun b hb => ?_
    rcases List.mem_append.1 hb with hb | hb
    · exact g4 b (by have := p2.lt b hb; have := p4 b (List.mem_append_right _ hb); omega) fun hm => p3 b hm hb
    · exact g4 b (n2 b hb).2 fun hm => by have := p1.lt b hm; have := n2 b hb; omega
  · have := g5 b hb
    rcases List.mem_append.1 hm with hm | hm
    · have := p2.lt b hm; have := p4 b (List.mem_append_right _ hm); omega
    · have := (n2 b hm).2; omega
  · rcases List.mem_append.1 hb with hb | hb
    · have := g5 b hb; omega
    · rcases List.mem_append.1 hb with hb | hb
      · have := p4 b (by simp [hb]); omega
      · have := n2 b hb; omega
/-- all of it is read -/
theorem BldO.all (h : BldO base σ el k row a l) : ∃ vs K, σ.rdSl a l.length k = some vs ∧ OwL σ (l.flatMap row) vs K ∧ ∀ b ∈ K, base ≤ b ∧ b < σ.next := by
  obtain ⟨hk, vs, L, p1, p2, p3, p4⟩ := h
  exact ⟨vs, L, p1.rd.rdSl, p2, fun b hb => ⟨p4 b (by simp [hb]), p2.lt b hb⟩⟩
/-- it is new -/
theorem BldO.out {σ0 : AH O} (h : BldO base σ el k row a l) (e : Ext σ0 σ) (hb : σ0.next ≤ base) : New σ0 σ [.sl el k l.length (l.flatMap row)] [.sl a l.length] := by
  obtain ⟨hk, vs, L, h1, h2, h3, h4⟩ := h
  exact ⟨e, (SA.bk a ++ L) ++ [], .cons (.sl h1 h2 h3) .nil (by simp), fun b hm => Nat.le_trans hb (h4 b (by simpa using hm))⟩
/-- one of them is read -/
theorem BldO.get (h : BldO base σ el k row a l) {i : Nat} {x : α} (hx : l[i]? = some x) : ∃ b us L, a = .loc (.n b) 0 k ∧ base ≤ b ∧ b < σ.next ∧ OwL σ (row x) us L ∧ (∀ c ∈ L, base ≤ c ∧ c < σ.next ∧ c ≠ b) ∧ ∀ j, j < k → σ.ld (.n b) (i * k + j) = us[j]? := by
  obtain ⟨hk, vs, L, h1, h2, h3, h4⟩ := h
  have hi := (List.getElem?_eq_some_iff.1 hx).1
  obtain ⟨b, rest, rfl, hb, hlt⟩ := h1.loc (by omega)
  have hle : i * k + k ≤ l.length * k := by rw [← Nat.succ_mul]; exact Nat.mul_le_mul_right _ hi
  have hvl := h1.len
  obtain ⟨L0, g0, g3⟩ := h2.drop (i * k)
  obtain ⟨L', g1, g4⟩ := g0.take k
  have g2 := fun c hc => g3 c (g4 c hc)
  have e : ((l.flatMap row).drop (i * k)).take k = row x := by
    apply List.ext_getElem?
    intro j
    rw [List.getElem?_take]
    split
    · rename_i hj
      rw [List.getElem?_drop, fmt_get hk _ _ _ hj, hx]; rfl
    · rename_i hj
      rw [List.getElem?_eq_none]
      rw [hk]; omega
  rw [e] at g1
  refine ⟨b, _, L', rfl, h4 b (by simp [SA.bk]), hlt, g1, fun c hc => ⟨h4 c (by simp [g2 c hc]), h2.lt c (g2 c hc), fun e => h3 b (by simp [SA.bk]) (e ▸ g2 c hc)⟩, fun j hj => ?_⟩
  rw [s_ld, hb, s_ldM, List.getElem?_take, if_pos hj, List.getElem?_drop, List.getElem?_append_left (by omega)]
/-- the first ones alone -/
theorem BldO.less (h : BldO base σ el k row a l) {m : Nat} (hm : m ≤ l.length) : BldO base σ el k row a (l.take m) := by
  obtain ⟨hk, vs, L, h1, h2, h3, h4⟩ := h
  obtain ⟨L', g1, g2⟩ := h2.take (m * k)
  refine ⟨hk, vs.take (m * k), L', ?_, by rw [flat_take hk]; exact g1, fun b hb hl => h3 b hb (g2 b hl), fun b hb => ?_⟩
  · rw [List.length_take, Nat.min_eq_left hm]; exact h1.less hm
  · rcases List.mem_append.1 hb with hb | hb
    · exact h4 b (by simp [hb])
    · exact h4 b (by simp [g2 b hb])
end bldo
end Go.Abs
namespace Go.Abs
open Go
variable {O : Type}

/-- a slice that is not frozen, or empty -/
def _root_.Go.Abs.AV.mine : AV → Bool
  | .sl (.loc (.f _) _ _) n => Nat.beq n 0
  | _ => true
theorem mine_bk {a : SA} {n : Nat} (h : SA.bk a ≠ [] ∨ n = 0) : (AV.sl a n).mine = true := by
  match a with
  | .nil => rfl
  | .z => rfl
  | .loc (.n b) _ _ => rfl
  | .loc (.f c) _ _ =>
    rcases h with h | rfl
    · exact absurd rfl h
    · rfl
theorem OwnP.mine {σ : AH O} {el es n : Nat} {a : SA} {cs : List AV} (h : OwnP σ el es a n cs) : (AV.sl a n).mine = true := by
  have h2 := h.wh
  match a, h2 with
  | .nil, _ => rfl
  | .z, _ => rfl
  | .loc (.n b) _ _, _ => rfl
  | .loc (.f c) _ _, ⟨_, _, e, _⟩ => cases e
theorem Ow.open_ {σ : AH O} {el es n : Nat} {cs : List TV} {a : SA} {L : List Nat} (h : Ow σ (.sl el es n cs) (.sl a n) L) (hm : (AV.sl a n).mine = true) (hn : n ≠ 0) : ∃ b rest vs M, a = .loc (.n b) 0 es ∧ σ.blk b = some (.cells true el (vs ++ rest)) ∧ vs.length = n * es ∧ b < σ.next ∧ OwL σ cs vs M ∧ L = b :: M ∧ b ∉ M := by
  cases h with
  | im h =>
    cases h with
    | sl h hc =>
      obtain ⟨b, o, rfl, _⟩ := (h O σ).ref (i := 0) (by omega)
      have hb := h.bk
      match b, hb, hm with
      | .f c, _, hm => exact absurd (Nat.eq_of_beq_eq_true hm) hn
      | .n c, hb, _ => simp [SA.bk] at hb
  | sl h hc hd =>
    obtain ⟨b, rest, rfl, h2, h3⟩ := h.loc hn
    exact ⟨b, rest, _, _, rfl, h2, h.len, h3, hc, rfl, hd b (by simp [SA.bk])⟩
theorem OwL.cut {σ : AH O} : ∀ {ts us : List TV} {vs : List AV} {L : List Nat}, OwL σ (ts ++ us) vs L → ∃ v w A B, vs = v ++ w ∧ L = A ++ B ∧ OwL σ ts v A ∧ OwL σ us w B ∧ ∀ b ∈ A, b ∉ B
  | [], us, vs, L, h => ⟨[], vs, [], L, rfl, rfl, .nil, h, by simp⟩
  | t :: ts, us, _, _, .cons (L1 := C) h hc hd => by
    obtain ⟨v, w, A, B, rfl, rfl, h1, h2, h3⟩ := hc.cut
    refine ⟨_ :: v, w, C ++ A, B, rfl, by simp, .cons h h1 fun b hb hm => hd b hb (by simp [hm]), h2, fun b hb hm => ?_⟩
    rcases List.mem_append.1 hb with hb | hb
    · exact hd b hb (by simp [hm])
    · exact h3 b hb hm
theorem splice_mid {v u w n : List AV} {o : Nat} (hv : v.length = o) (hn : n.length = u.length) : splice (v ++ (u ++ w)) o n = v ++ (n ++ w) := by
  subst hv
  unfold splice
  rw [List.take_left, List.drop_append, List.drop_eq_nil_of_le (by omega), Nat.add_sub_cancel_left, hn, List.drop_left]; simp
/-- rows, in these blocks -/
structure BldM {α : Type} (σ : AH O) (el k : Nat) (row : α → List TV) (a : SA) (l : List α) (L : List Nat) : Prop where
  hk : ∀ x, (row x).length = k
  it : ∃ vs M, OwnP σ el k a l.length vs ∧ OwL σ (l.flatMap row) vs M ∧ (∀ b ∈ SA.bk a, b ∉ M) ∧ L = SA.bk a ++ M ∧ vs.all AV.mine = true
section bldm
variable {α : Type} {σ : AH O} {el k : Nat} {row : α → List TV} {a : SA} {l : List α} {L : List Nat}
theorem BldM.ow (h : BldM σ el k row a l L) : Ow σ (.sl el k l.length (l.flatMap row)) (.sl a l.length) L := by
  obtain ⟨hk, vs, M, h1, h2, h3, rfl, h5⟩ := h
  exact .sl h1 h2 h3
theorem BldM.nil (σ : AH O) (el : Nat) (hk : ∀ x, (row x).length = k) : BldM σ el k row .nil [] [] := ⟨hk, [], [], (OwnS.nil _ _ _).p, .nil, by simp [SA.bk], by simp [SA.bk], rfl⟩
theorem BldM.lt (h : BldM σ el k row a l L) : ∀ b ∈ L, b < σ.next := h.ow.lt
theorem BldM.of {σ' : AH O} (h : BldM σ el k row a l L) (hn : σ.next ≤ σ'.next) (hb : ∀ b ∈ L, σ'.blk b = σ.blk b) : BldM σ' el k row a l L := by
  obtain ⟨hk, vs, M, h1, h2, h3, rfl, h5⟩ := h
  exact ⟨hk, vs, M, h1.of hn fun b hm => hb b (by simp [hm]), h2.of hn fun b hm => hb b (by simp [hm]), h3, rfl, h5⟩
theorem BldM.bk (h : BldM σ el k row a l L) : ∀ b ∈ SA.bk a, b ∈ L := by
  obtain ⟨hk, vs, M, h1, h2, h3, rfl, h5⟩ := h
  exact fun b hb => by simp [hb]
theorem BldM.less (h : BldM σ el k row a l L) {m : Nat} (hm : m ≤ l.length) : ∃ L', BldM σ el k row a (l.take m) L' ∧ ∀ b ∈ L', b ∈ L := by
  obtain ⟨hk, vs, M, h1, h2, h3, rfl, h5⟩ := h
  obtain ⟨L', g1, g2⟩ := h2.take (m * k)
  refine ⟨SA.bk a ++ L', ⟨hk, vs.take (m * k), L', ?_, by rw [flat_take hk]; exact g1, fun b hb hl => h3 b hb (g2 b hl), rfl, ?_⟩, fun b hb => ?_⟩
  · rw [List.length_take, Nat.min_eq_left hm]; exact h1.less hm
  · rw [List.all_eq_true] at h5 ⊢
    exact fun v hv => h5 v (List.mem_of_mem_take hv)
  · rcases List.mem_append.1 hb with hb | hb
    · simp [hb]
    · simp [g2 b hb]
/-- one more -/
theorem BldM.app {x : α} {new : List AV} {nid : Nat} {K : List Nat} (h : BldM σ el k row a l L) (q3 : OwL σ (row x) new K) (hd : ∀ b ∈ L, b ∉ K) (hm : new.all AV.mine = true) (h1 : nid ∉ L ∧ nid ∉ K) (h2 : nid < σ.next) :
    Ok (σ.appSl nid el k a l.length 1 new) fun r => ∃ a' L', r.1 = .sl a' (l.length + 1) ∧ BldM r.2 el k row a' (l ++ [x]) L' ∧ r.2.next = σ.next ∧ (∀ b, b ≠ nid → b ∉ L → r.2.blk b = σ.blk b) ∧ ∀ b ∈ L', b = nid ∨ b ∈ L ∨ b ∈ K := by
  obtain ⟨hk, vs, M, p1, p2, p3, rfl, p5⟩ := h
  have e0 : ∀ {b}, b ∈ SA.bk a ++ M ↔ b ∈ SA.bk a ∨ b ∈ M := List.mem_append
  refine (app_okP p1 (fun hm => h1.1 (by simp [hm])) h2 (by rw [q3.len, hk, Nat.one_mul])).mono ?_
  rintro ⟨q, σ4⟩ ⟨a', g1, g2, g3, g4, g5⟩
  simp only at g1 g2 g3 g4
  have all := p2.app q3 fun b hb hm => hd b (by simp [hb]) hm
  refine ⟨a', SA.bk a' ++ (M ++ K), g1, ⟨hk, vs ++ new, M ++ K, ?_, ?_, fun b hb hm => ?_, rfl, by rw [List.all_append, p5, hm]; rfl⟩, g3, fun b e1 e2 => g4 b e1 fun hm => e2 (by simp [hm]), fun b hb => ?_⟩
  · rw [List.length_append]; exact g2
  · rw [List.flatMap_append, List.flatMap_cons, List.flatMap_nil, List.append_nil]
    refine all.of (by show σ.next ≤ σ4.next; omega) fun b hb => ?_
    rcases List.mem_append.1 hb with hb | hb
    · exact g4 b (fun e => h1.1 (by simp [← e, hb])) fun hm => p3 b hm hb
    · exact g4 b (fun e => h1.2 (by simp [← e, hb])) fun hm => hd b (by simp [hm]) hb
  · have e := g5 b hb
    subst e
    rcases List.mem_append.1 hm with hm | hm
    · exact h1.1 (by simp [hm])
    · exact h1.2 hm
  · rcases List.mem_append.1 hb with hb | hb
    · exact .inl (g5 b hb)
    · rcases List.mem_append.1 hb with hb | hb
      · exact .inr (.inl (by simp [hb]))
      · exact .inr (.inr hb)
/-- one of them is opened, and closed with another in its place -/
theorem BldM.open_ (h : BldM σ el k row a l L) {i : Nat} {x : α} (hx : l[i]? = some x) : ∃ b v u w M, a = .loc (.n b) 0 k ∧ b ∈ L ∧ σ.blk b = some (.cells true el (v ++ (u ++ w))) ∧ v.length = i * k ∧ u.length = k ∧ u.all AV.mine = true ∧ OwL σ (row x) u M ∧ (∀ c ∈ M, c ∈ L ∧ c ≠ b) ∧
    ∀ (σ' : AH O) (y : α) (u' : List AV) (M' : List Nat), σ.next ≤ σ'.next → σ'.blk b = some (.cells true el (v ++ (u' ++ w))) → (∀ c ∈ L, c ≠ b → c ∉ M → σ'.blk c = σ.blk c) → OwL σ' (row y) u' M' → (∀ c ∈ M', c ∈ M ∨ c ∉ L) → u'.all AV.mine = true → ∃ L', BldM σ' el k row a (l.set i y) L' ∧ ∀ c ∈ L', c ∈ L ∨ c ∈ M' := by
  obtain ⟨hk, vs, N, h1, h2, h3, rfl, h5⟩ := h
  have hi := (List.getElem?_eq_some_iff.1 hx).1
  obtain ⟨l1, l2, hl, hl1⟩ : ∃ l1 l2, l = l1 ++ x :: l2 ∧ l1.length = i := by
    refine ⟨l.take i, l.drop (i + 1), ?_, by simp; omega⟩
    have e : l[i] = x := (List.getElem?_eq_some_iff.1 hx).2
    rw [← e, ← List.drop_eq_getElem_cons hi, List.take_append_drop]
  subst hl1
  obtain ⟨b, rest, rfl, hb, hlt⟩ := h1.loc (by omega)
  have hset : ∀ y, l.set l1.length y = l1 ++ y :: l2 := fun y => by subst hl; simp
  have hlen := h1.len
  rw [hl, List.flatMap_append, List.flatMap_cons] at h2
  obtain ⟨v, vw, A, MB, rfl, rfl, g1, g2, g3⟩ := h2.cut
  obtain ⟨u, w, M, B, rfl, rfl, g4, g5, g6⟩ := g2.cut
  have nb : b ∉ A ++ (M ++ B) := h3 b (by simp [SA.bk])
  simp only [List.mem_append, not_or] at nb
  have lv : v.length = l1.length * k := by rw [g1.len, fmt_len hk]
  have lu : u.length = k := by rw [g4.len, hk]
  simp only [List.all_append, Bool.and_eq_true] at h5
  refine ⟨b, v, u, w ++ rest, M, rfl, by simp [SA.bk], by simpa using hb, lv, lu, h5.2.1, g4, fun c hc => ⟨by simp [hc], fun e => nb.2.1 (e ▸ hc)⟩, ?_⟩
  intro σ' y u' M' hn hb' hf ho hM hm
  have lu' : u'.length = k := by rw [ho.len, hk]
  have oA := g1.of hn fun c hc => hf c (by simp [hc]) (fun e => nb.1 (e ▸ hc)) fun hm => g3 c hc (by simp [hm])
  have oB := g5.of hn fun c hc => hf c (by simp [hc]) (fun e => nb.2.2 (e ▸ hc)) fun hm => g6 c hm hc
  have nM : b ∉ M' := fun hc => by
    rcases hM b hc with h | h
    · exact nb.2.1 h
    · exact h (by simp [SA.bk])
  refine ⟨SA.bk (.loc (.n b) 0 k) ++ (A ++ (M' ++ B)), ⟨hk, v ++ (u' ++ w), A ++ (M' ++ B), ?_, ?_, ?_, rfl, by simp [h5.1, hm, h5.2.2]⟩, ?_⟩
  · rw [List.length_set]
    refine ⟨?_, b, rest, rfl, rfl, rfl, by simpa using hb', by omega⟩
    rw [← hlen]; simp [lu, lu']
  · rw [hset, List.flatMap_append, List.flatMap_cons]
    refine oA.app (ho.app oB fun c hc hm => ?_) fun c hc hm => ?_
    · rcases hM c hc with h | h
      · exact g6 c h hm
      · exact h (by simp [hm])
    · rcases List.mem_append.1 hm with hm | hm
      · rcases hM c hm with h | h
        · exact g3 c hc (by simp [h])
        · exact h (by simp [hc])
      · exact g3 c hc (by simp [hm])
  · intro c hc
    simp only [SA.bk, List.mem_singleton] at hc
    subst hc
    simp only [List.mem_append, not_or]
    exact ⟨nb.1, nM, nb.2.2⟩
  · intro c hc
    simp only [SA.bk, List.mem_append, List.mem_singleton] at hc ⊢
    rcases hc with rfl | hc | hc | hc
    · exact .inl (.inl rfl)
    · exact .inl (.inr (.inl hc))
    · exact .inr hc
    · exact .inl (.inr (.inr (.inr hc)))
end bldm
end Go.Abs
namespace Go.Abs
open Go
variable {O : Type}

theorem frzL_nil {F : AH O → AV → Option (AV × AH O)} {σ : AH O} : frzL F [] σ = some ([], σ) := rfl
theorem frzL_cons {F : AH O → AV → Option (AV × AH O)} {σ : AH O} {v : AV} {vs : List AV} : frzL F (v :: vs) σ = (F σ v).bind fun r => (frzL F vs r.2).bind fun q => some (r.1 :: q.1, q.2) := rfl
theorem frzA_flt {d : Nat} {σ : AH O} {v : AV} (h : v.flt = true) : frzA (d + 1) σ v = some (v, σ) := by unfold frzA; rw [h]; rfl
theorem frzL_flt {d : Nat} {σ : AH O} : ∀ {vs : List AV}, AV.flt.flts vs = true → frzL (frzA (d + 1)) vs σ = some (vs, σ)
  | [], _ => rfl
  | v :: vs, h => by
    simp only [AV.flt.flts, Bool.and_eq_true] at h
    rw [frzL_cons, frzA_flt h.1, Option.bind_some, frzL_flt h.2]; rfl
theorem frzA_sl {d : Nat} {σ : AH O} {b o es n el : Nat} {cs cs' : List AV} {σ' : AH O} (hn : n ≠ 0) (hb : σ.blk b = some (.cells true el cs)) (hl : o + n * es ≤ cs.length) (hc : frzL (frzA d) cs (σ.kill b) = some (cs', σ')) :
    frzA (d + 1) σ (.sl (.loc (.n b) o es) n) = some (.sl (.loc (.f ((cs'.drop o).take (n * es))) 0 es) n, σ'.put b (.cells false el cs')) := by
  unfold frzA
  simp only [AV.flt, cond_false, s_n1 hn, hb, s_room hl, cond_true, hc, Option.bind_some]
theorem frzA_slF {d : Nat} {σ : AH O} {b o es n el : Nat} {cs : List AV} (hn : n ≠ 0) (hb : σ.blk b = some (.cells false el cs)) (hl : o + n * es ≤ cs.length) :
    frzA (d + 1) σ (.sl (.loc (.n b) o es) n) = some (.sl (.loc (.f ((cs.drop o).take (n * es))) 0 es) n, σ) := by
  unfold frzA
  simp only [AV.flt, cond_false, s_n1 hn, hb, s_room hl, cond_true]
theorem frzA_agg {d : Nat} {σ σ' : AH O} {cs cs' : List AV} (hc : frzL (frzA (d + 1)) cs σ = some (cs', σ')) : frzA (d + 2) σ (.agg cs) = some (.agg cs', σ') := by
  by_cases h : (AV.agg cs).flt = true
  · rw [frzA_flt h]
    rw [frzL_flt (by simpa [AV.flt] using h)] at hc
    cases hc; rfl
  · unfold frzA
    simp only [Bool.not_eq_true] at h
    simp only [h, cond_false, hc, Option.bind_some]
theorem frzL_step {F : AH O → AV → Option (AV × AH O)} {σ σ1 σ2 : AH O} {v v' : AV} {vs vs' : List AV} (h1 : F σ v = some (v', σ1)) (h2 : frzL F vs σ1 = some (vs', σ2)) : frzL F (v :: vs) σ = some (v' :: vs', σ2) := by
  rw [frzL_cons, h1, Option.bind_some, h2]; rfl
theorem fza_eq {s : Sm O} {xs ys : List AV} {σ σ' : AH O} (h : frzL (frzA 8) xs σ = some (ys, σ')) : fza s xs σ = s ys σ' := by
  unfold fza; rw [h]; rfl
/-- a slice gets one element more that is never written -/
theorem BldO.push {α : Type} {base : Nat} {σ σ3 : AH O} {el k : Nat} {row : α → List TV} {a : SA} {l : List α} {x : α} {new : List AV} {nid : Nat} (h : BldO base σ el k row a l) (hb : base ≤ σ.next) (hn : σ.next ≤ σ3.next) (hf : ∀ b, base ≤ b → b < σ.next → σ3.blk b = σ.blk b) (hi : ImL (row x) new) (h1 : σ.next ≤ nid) (h2 : nid < σ3.next) :
    Ok (σ3.appSl nid el k a l.length 1 new) fun r => ∃ a', r.1 = .sl a' (l.length + 1) ∧ BldO base r.2 el k row a' (l ++ [x]) ∧ r.2.next = σ3.next ∧ ∀ b, b < base → r.2.blk b = σ3.blk b := by
  refine (h.app' (m := [x]) hb hn hf ⟨[], OwL.im (by simpa using hi), by simp⟩ h1 h2).mono ?_
  rintro ⟨z, σ4⟩ ⟨a', g1, g2, g3, g4, g5⟩
  exact ⟨a', g1, g2, g3, fun b hb' => g4 b (by omega) fun hm => by have := (h.bk b hm).1; omega⟩
theorem flt_of_flat {v : AV} (h : v.flat = true) : v.flt = true := by
  cases v with
  | sl a n => cases a with
    | loc b o es => cases b with
      | n k => cases h
      | f cs => rfl
    | _ => rfl
  | agg cs => cases h
  | tup cs => cases h
  | _ => rfl
theorem flts_of_flat : ∀ {vs : List AV}, vs.all AV.flat = true → AV.flt.flts vs = true
  | [], _ => rfl
  | v :: vs, h => by
    simp only [List.all_cons, Bool.and_eq_true] at h
    simp only [AV.flt.flts, flt_of_flat h.1, flts_of_flat h.2, Bool.and_self]
end Go.Abs
