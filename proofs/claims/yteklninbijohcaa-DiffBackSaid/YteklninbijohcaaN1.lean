/-
  Trees of plain data: what stands for them in a heap, frozen or owned. No conditions.
-/
import Derived.Test.YteklninbijohcaaAbsSl
set_option linter.unusedVariables false
set_option linter.unusedSimpArgs false
set_option linter.constructorNameAsVariable false
namespace Go.Abs
open Go
variable {O : Type}

/-- the first ones of a block of our own -/
structure OwnP (σ : AH O) (el es : Nat) (a : SA) (n : Nat) (cs : List AV) : Prop where
  len : cs.length = n * es
  wh : match a with
    | .loc b o e => ∃ k rest, b = .n k ∧ o = 0 ∧ e = es ∧ σ.blk k = some (.cells true el (cs ++ rest)) ∧ k < σ.next
    | _ => n = 0
theorem OwnS.p {σ : AH O} {el es n : Nat} {a : SA} {cs : List AV} (h : OwnS σ el es a n cs) : OwnP σ el es a n cs := by
  refine ⟨h.len, ?_⟩
  have h2 := h.wh
  cases a with
  | loc b o e => obtain ⟨k, h1, h2, h3, h4, h5⟩ := h2; exact ⟨k, [], h1, h2, h3, by rw [List.append_nil]; exact h4, h5⟩
  | nil => exact h2
  | z => exact h2
theorem OwnP.rd {σ : AH O} {el es : Nat} {a : SA} {n : Nat} {cs : List AV} (h : OwnP σ el es a n cs) : Rd σ es a n cs := by
  refine ⟨h.len, ?_⟩
  have h2 := h.wh
  have hl := h.len
  cases a with
  | loc b o e =>
    obtain ⟨k, rest, rfl, rfl, rfl, h3, _⟩ := h2
    exact ⟨rfl, cs ++ rest, by simp only [AH.cs, h3], by simp; omega, by rw [List.drop_zero, ← hl, List.take_left]⟩
  | nil => have h2 : n = 0 := h2; subst h2; exact ⟨rfl, List.eq_nil_of_length_eq_zero (by simpa using hl)⟩
  | z => have h2 : n = 0 := h2; subst h2; exact ⟨rfl, List.eq_nil_of_length_eq_zero (by simpa using hl)⟩
theorem OwnP.of {σ σ' : AH O} {el es n : Nat} {a : SA} {cs : List AV} (h : OwnP σ el es a n cs) (hn : σ.next ≤ σ'.next) (hb : ∀ b ∈ SA.bk a, σ'.blk b = σ.blk b) : OwnP σ' el es a n cs := by
  refine ⟨h.len, ?_⟩
  have h2 := h.wh
  cases a with
  | loc b o e =>
    obtain ⟨k, rest, rfl, rfl, rfl, h3, h4⟩ := h2
    exact ⟨k, rest, rfl, rfl, rfl, by rw [hb k (by simp [SA.bk])]; exact h3, Nat.lt_of_lt_of_le h4 hn⟩
  | nil => exact h2
  | z => exact h2
theorem OwnP.lt {σ : AH O} {el es n : Nat} {a : SA} {cs : List AV} (h : OwnP σ el es a n cs) : ∀ b ∈ SA.bk a, b < σ.next := fun b hb => by
  have h2 := h.wh
  match a, hb, h2 with
  | .loc (.n c) o e, hb, h2 =>
    obtain ⟨k, _, e1, _, _, _, h4⟩ := h2
    cases e1
    simp only [SA.bk, List.mem_singleton] at hb
    subst hb; exact h4
theorem OwnP.loc {σ : AH O} {el es n : Nat} {a : SA} {cs : List AV} (h : OwnP σ el es a n cs) (hn : n ≠ 0) : ∃ k rest, a = .loc (.n k) 0 es ∧ σ.blk k = some (.cells true el (cs ++ rest)) ∧ k < σ.next := by
  have h2 := h.wh
  cases a with
  | loc b o e => obtain ⟨k, rest, rfl, rfl, rfl, h3, h4⟩ := h2; exact ⟨k, rest, rfl, h3, h4⟩
  | nil => exact absurd h2 hn
  | z => exact absurd h2 hn
theorem OwnP.new {σ : AH O} {el es n b : Nat} {cs rest : List AV} (hl : cs.length = n * es) (h : σ.blk b = some (.cells true el (cs ++ rest))) (hb : b < σ.next) : OwnP σ el es (.loc (.n b) 0 es) n cs := ⟨hl, b, rest, rfl, rfl, rfl, h, hb⟩
/-- fewer of them -/
theorem OwnP.less {σ : AH O} {el es n m : Nat} {a : SA} {cs : List AV} (h : OwnP σ el es a n cs) (hm : m ≤ n) : OwnP σ el es a m (cs.take (m * es)) := by
  have hl := h.len
  have hle : m * es ≤ n * es := Nat.mul_le_mul_right _ hm
  refine ⟨by simp; omega, ?_⟩
  have h2 := h.wh
  cases a with
  | loc b o e =>
    obtain ⟨k, rest, h1, h2, h3, h4, h5⟩ := h2
    exact ⟨k, cs.drop (m * es) ++ rest, h1, h2, h3, by rw [← List.append_assoc, List.take_append_drop]; exact h4, h5⟩
  | nil => have h2 : n = 0 := h2; show m = 0; omega
  | z => have h2 : n = 0 := h2; show m = 0; omega
/-- 'append' -/
theorem app_okP {σ : AH O} {nid el es n m : Nat} {a : SA} {cs new : List AV} (h : OwnP σ el es a n cs) (hne : nid ∉ SA.bk a) (hlt : nid < σ.next) (hm : new.length = m * es) :
    Ok (σ.appSl nid el es a n m new) fun r => ∃ a', r.1 = .sl a' (n + m) ∧ OwnP r.2 el es a' (n + m) (cs ++ new) ∧ r.2.next = σ.next ∧ (∀ b, b ≠ nid → b ∉ SA.bk a → r.2.blk b = σ.blk b) ∧ ∀ b ∈ SA.bk a', b = nid := by
  have hw := h.wh
  have hl := h.len
  have hmul : (n + m) * es = n * es + m * es := Nat.add_mul _ _ _
  cases a with
  | loc b o es' =>
    obtain ⟨k, rest, rfl, rfl, rfl, h3, h4⟩ := hw
    have hc : (Nat.beq el el && Nat.ble (0 + n * es') (cs ++ rest).length) = true := by
      rw [s_beq, Bool.true_and]; exact Nat.ble_eq_true_of_le (by simp; omega)
    simp only [AH.appSl, h3, hc, cond_true]
    have ht : ((cs ++ rest).drop 0).take (n * es') = cs := by rw [List.drop_zero, ← hl, List.take_left]
    rw [ht]
    refine Ok_some.2 ⟨_, rfl, OwnP.new (rest := []) (by simp [hl, hm, hmul]) (by simp) hlt, rfl, fun q hq hq' => ?_, fun b hb' => by simpa [SA.bk] using hb'⟩
    have : q ≠ k := fun e => hq' (by simp [SA.bk, e])
    simp [hq, this]
  | nil =>
    have hS : OwnS σ el es .nil n cs := ⟨hl, hw⟩
    exact (app_ok hS hne hlt hm).mono fun r ⟨a', g1, g2, g3, g4, g5⟩ => ⟨a', g1, g2.p, g3, g4, g5⟩
  | z =>
    have hS : OwnS σ el es .z n cs := ⟨hl, hw⟩
    exact (app_ok hS hne hlt hm).mono fun r ⟨a', g1, g2, g3, g4, g5⟩ => ⟨a', g1, g2.p, g3, g4, g5⟩
/-- frozen -/
theorem FZ.slP {d : Nat} {σ : AH O} {H : Nat → Option (Blk O)} {L : List Nat} {el es n : Nat} {a : SA} {cs cs' : List AV} (h : OwnP σ el es a n cs) (hH : ∀ b ∈ SA.bk a, H b = σ.blk b) (hc : FZL (d + 1) H L cs cs') (hl : cs'.length = cs.length) (hd : ∀ b ∈ SA.bk a, b ∉ L) : ∃ a', FZ (d + 2) H (SA.bk a ++ L) (.sl a n) (.sl a' n) ∧ Imm es a' n cs' := by
  have hw := h.wh
  have hlen := h.len
  cases a with
  | loc b o e =>
    obtain ⟨k, rest, rfl, rfl, rfl, h3, h4⟩ := hw
    refine ⟨.loc (.f cs') 0 e, fun σ1 hσ => ?_, Imm.f (by rw [hl]; exact hlen)⟩
    have hk : σ1.blk k = some (.cells true el (cs ++ rest)) := by rw [hσ k (by simp [SA.bk]), hH k (by simp [SA.bk])]; exact h3
    obtain ⟨σ', e1, n1, b1⟩ := hc (σ1.kill k) fun b hb => by
      have : b ≠ k := fun e => hd k (by simp [SA.bk]) (e ▸ hb)
      rw [kill_blk, if_neg this]; exact hσ b (by simp [hb])
    refine ⟨σ', ?_, by simpa using n1, fun b => ?_⟩
    · rw [frzV_sl, hk]
      simp only
      rw [Nat.ble_eq_true_of_le (by simp; omega), cond_true, List.drop_zero, ← hlen, List.take_left, e1]; rfl
    · rw [b1, kill_blk]
      by_cases g1 : b = k <;> by_cases g2 : b ∈ L <;> simp [SA.bk, g1, g2]
  | nil => exact FZ.sl (σ := σ) (el := el) ⟨hlen, hw⟩ hH hc hl hd
  | z => exact FZ.sl (σ := σ) (el := el) ⟨hlen, hw⟩ hH hc hl hd

/-- a tree: a cell without blocks, or a slice: the element's type, its cells, how many, all cells -/
inductive TV where
  | lf (v : AV)
  | sl (el es n : Nat) (cs : List TV)
mutual
/-- it stands frozen: in every heap -/
inductive Im : TV → AV → Prop
  | lf {v : AV} (h : v.flat = true) : Im (.lf v) v
  | sl {el es n : Nat} {cs : List TV} {a : SA} {vs : List AV} (h : Imm es a n vs) (hc : ImL cs vs) : Im (.sl el es n cs) (.sl a n)
inductive ImL : List TV → List AV → Prop
  | nil : ImL [] []
  | cons {t : TV} {v : AV} {ts : List TV} {vs : List AV} (h : Im t v) (hc : ImL ts vs) : ImL (t :: ts) (v :: vs)
end
mutual
/-- it stands in this heap, in blocks of its own -/
inductive Ow (σ : AH O) : TV → AV → List Nat → Prop
  | im {t : TV} {v : AV} (h : Im t v) : Ow σ t v []
  | sl {el es n : Nat} {cs : List TV} {a : SA} {vs : List AV} {L : List Nat} (h : OwnP σ el es a n vs) (hc : OwL σ cs vs L) (hd : ∀ b ∈ SA.bk a, b ∉ L) : Ow σ (.sl el es n cs) (.sl a n) (SA.bk a ++ L)
inductive OwL (σ : AH O) : List TV → List AV → List Nat → Prop
  | nil : OwL σ [] [] []
  | cons {t : TV} {v : AV} {ts : List TV} {vs : List AV} {L1 L2 : List Nat} (h : Ow σ t v L1) (hc : OwL σ ts vs L2) (hd : ∀ b ∈ L1, b ∉ L2) : OwL σ (t :: ts) (v :: vs) (L1 ++ L2)
end
theorem Imm.flat {es n : Nat} {a : SA} {vs : List AV} (h : Imm es a n vs) : (AV.sl a n).flat = true := by
  have hb := h.bk
  match a, hb with
  | .nil, _ => rfl
  | .z, _ => rfl
  | .loc (.f _) _ _, _ => rfl
  | .loc (.n b) _ _, hb => simp [SA.bk] at hb
theorem Im.flat {t : TV} {v : AV} (h : Im t v) : v.flat = true := by
  cases h with
  | lf h => exact h
  | sl h hc => exact h.flat
theorem ImL.flat : ∀ {ts : List TV} {vs : List AV}, ImL ts vs → vs.all AV.flat = true
  | _, _, .nil => rfl
  | _, _, .cons h hc => by simp [h.flat, hc.flat]
theorem ImL.len : ∀ {ts : List TV} {vs : List AV}, ImL ts vs → vs.length = ts.length
  | _, _, .nil => rfl
  | _, _, .cons h hc => by simp [hc.len]
theorem ImL.get : ∀ {ts : List TV} {vs : List AV}, ImL ts vs → ∀ {i : Nat} {t : TV}, ts[i]? = some t → ∃ v, vs[i]? = some v ∧ Im t v
  | _, _, .nil, i, t, h => by simp at h
  | _, _, .cons h hc, 0, t, e => by simp at e; subst e; exact ⟨_, rfl, h⟩
  | _, _, .cons h hc, i + 1, t, e => hc.get (i := i) (by simpa using e)
theorem ImL.app : ∀ {ts us : List TV} {vs ws : List AV}, ImL ts vs → ImL us ws → ImL (ts ++ us) (vs ++ ws)
  | _, _, _, _, .nil, k => k
  | _, _, _, _, .cons h hc, k => .cons h (hc.app k)
theorem ImL.drop : ∀ {ts : List TV} {vs : List AV} (n : Nat), ImL ts vs → ImL (ts.drop n) (vs.drop n)
  | _, _, 0, h => by simpa using h
  | _, _, n + 1, .nil => .nil
  | _, _, n + 1, .cons h hc => by simpa using hc.drop n
theorem ImL.take : ∀ {ts : List TV} {vs : List AV} (n : Nat), ImL ts vs → ImL (ts.take n) (vs.take n)
  | _, _, 0, h => by simpa using ImL.nil
  | _, _, n + 1, .nil => .nil
  | _, _, n + 1, .cons h hc => by simpa using ImL.cons h (hc.take n)
theorem ImL.lfs : ∀ {vs : List AV}, vs.all AV.flat = true → ImL (vs.map TV.lf) vs
  | [], _ => .nil
  | v :: vs, h => by
    simp only [List.all_cons, Bool.and_eq_true] at h
    exact .cons (.lf h.1) (ImL.lfs h.2)
theorem OwL.im {σ : AH O} : ∀ {ts : List TV} {vs : List AV}, ImL ts vs → OwL σ ts vs []
  | _, _, .nil => .nil
  | _, _, .cons h hc => by simpa using OwL.cons (.im h) (OwL.im hc) (by simp)
theorem OwL.len {σ : AH O} : ∀ {ts : List TV} {vs : List AV} {L : List Nat}, OwL σ ts vs L → vs.length = ts.length
  | _, _, _, .nil => rfl
  | _, _, _, .cons h hc hd => by simp [hc.len]
mutual
theorem Ow.of {σ σ' : AH O} (hn : σ.next ≤ σ'.next) : ∀ {t : TV} {v : AV} {L : List Nat}, Ow σ t v L → (∀ b ∈ L, σ'.blk b = σ.blk b) → Ow σ' t v L
  | _, _, _, .im h, _ => .im h
  | _, _, _, .sl h hc hd, hb => .sl (h.of hn fun b hm => hb b (List.mem_append_left _ hm)) (hc.of hn fun b hm => hb b (List.mem_append_right _ hm)) hd
theorem OwL.of {σ σ' : AH O} (hn : σ.next ≤ σ'.next) : ∀ {ts : List TV} {vs : List AV} {L : List Nat}, OwL σ ts vs L → (∀ b ∈ L, σ'.blk b = σ.blk b) → OwL σ' ts vs L
  | _, _, _, .nil, _ => .nil
  | _, _, _, .cons h hc hd, hb => .cons (h.of hn fun b hm => hb b (List.mem_append_left _ hm)) (hc.of hn fun b hm => hb b (List.mem_append_right _ hm)) hd
end
mutual
theorem Ow.lt {σ : AH O} : ∀ {t : TV} {v : AV} {L : List Nat}, Ow σ t v L → ∀ b ∈ L, b < σ.next
  | _, _, _, .im h, b, hb => by simp at hb
  | _, _, _, .sl h hc hd, b, hb => (List.mem_append.1 hb).elim (h.lt b) (hc.lt b)
theorem OwL.lt {σ : AH O} : ∀ {ts : List TV} {vs : List AV} {L : List Nat}, OwL σ ts vs L → ∀ b ∈ L, b < σ.next
  | _, _, _, .nil, b, hb => by simp at hb
  | _, _, _, .cons h hc hd, b, hb => (List.mem_append.1 hb).elim (h.lt b) (hc.lt b)
end
/-- how deep slices lie in slices -/
def TV.deep : TV → Nat → Prop
  | .lf _, _ => True
  | .sl _ _ _ _, 0 => False
  | .sl _ _ _ cs, d + 1 => ∀ t ∈ cs, t.deep d
mutual
/-- what stands in blocks of its own can be frozen -/
theorem Ow.fz {σ : AH O} : ∀ {t : TV} {v : AV} {L : List Nat} {d : Nat}, Ow σ t v L → t.deep d → ∃ v', FZ (d + 1) σ.blk L v v' ∧ Im t v'
  | _, v, _, d, .im h, _ => ⟨v, FZ.flat h.flat, h⟩
  | _, _, _, 0, .sl h hc hd, hdp => by unfold TV.deep at hdp; exact hdp.elim
  | _, _, _, d + 1, .sl h hc hd, hdp => by
    unfold TV.deep at hdp
    obtain ⟨vs', g1, g2⟩ := hc.fz hdp
    obtain ⟨a', k1, k2⟩ := FZ.slP h (fun _ _ => rfl) g1 (by rw [g2.len, hc.len]) hd
    exact ⟨_, k1, .sl k2 g2⟩
theorem OwL.fz {σ : AH O} : ∀ {ts : List TV} {vs : List AV} {L : List Nat} {d : Nat}, OwL σ ts vs L → (∀ t ∈ ts, t.deep d) → ∃ vs', FZL (d + 1) σ.blk L vs vs' ∧ ImL ts vs'
  | _, _, _, d, .nil, _ => ⟨[], FZL.nil, .nil⟩
  | _, _, _, d, .cons h hc hd, hdp => by
    obtain ⟨v', g1, g2⟩ := h.fz (hdp _ List.mem_cons_self)
    obtain ⟨vs', k1, k2⟩ := hc.fz fun t ht => hdp t (List.mem_cons_of_mem _ ht)
    exact ⟨v' :: vs', FZL.cons g1 k1 hd, .cons g2 k2⟩
end
theorem OwL.app {σ : AH O} : ∀ {ts us : List TV} {vs ws : List AV} {L K : List Nat}, OwL σ ts vs L → OwL σ us ws K → (∀ b ∈ L, b ∉ K) → OwL σ (ts ++ us) (vs ++ ws) (L ++ K)
  | _, _, _, _, _, _, .nil, k, _ => k
  | _, _, _, _, _, _, .cons h hc hd, k, hk => by
    rw [List.append_assoc]
    exact .cons h (hc.app k fun b hb => hk b (List.mem_append_right _ hb)) fun b hb hm => (List.mem_append.1 hm).elim (hd b hb) (hk b (List.mem_append_left _ hb))
/-- one of them, and another in its place -/
theorem OwL.split {σ : AH O} : ∀ {ts : List TV} {vs : List AV} {L : List Nat} {i : Nat} {t : TV}, OwL σ ts vs L → ts[i]? = some t →
    ∃ v L1 L2 L3, vs[i]? = some v ∧ Ow σ t v L2 ∧ L = L1 ++ (L2 ++ L3) ∧ (∀ b ∈ L2, b ∉ L1 ∧ b ∉ L3) ∧
      ∀ (σ' : AH O) (t' : TV) (v' : AV) (L' : List Nat), σ.next ≤ σ'.next → (∀ b, b ∈ L1 ∨ b ∈ L3 → σ'.blk b = σ.blk b) → Ow σ' t' v' L' → (∀ b ∈ L', b ∉ L1 ∧ b ∉ L3) → OwL σ' (ts.set i t') (vs.set i v') (L1 ++ (L' ++ L3))
  | _, _, _, i, t, .nil, e => by simp at e
  | _, _, _, 0, t, .cons (L1 := A) (L2 := B) h hc hd, e => by
    simp at e
    subst e
    refine ⟨_, [], A, B, rfl, h, rfl, fun b hb => ⟨by simp, hd b hb⟩, fun σ' t' v' L' hn hb ho hl => ?_⟩
    show OwL σ' _ _ (L' ++ B)
    exact .cons ho (hc.of hn fun b hm => hb b (.inr hm)) fun b hm => (hl b hm).2
  | _, _, _, i + 1, t, .cons (L1 := A) h hc hd, e => by
    obtain ⟨v, L1, L2, L3, g1, g2, rfl, g4, g5⟩ := hc.split (i := i) (by simpa using e)
    refine ⟨v, A ++ L1, L2, L3, by simpa using g1, g2, by simp, fun b hb => ⟨fun hm => ?_, (g4 b hb).2⟩, fun σ' t' v' L' hn hb ho hl => ?_⟩
    · rcases List.mem_append.1 hm with hm | hm
      · exact hd b hm (by simp [hb])
      · exact (g4 b hb).1 hm
    · rw [List.append_assoc]
      refine .cons (h.of hn fun b hm => hb b (.inl (List.mem_append_left _ hm))) (g5 σ' t' v' L' hn (fun b hm => hb b (hm.imp (List.mem_append_right _) id)) ho fun b hm => ⟨fun h1 => (hl b hm).1 (List.mem_append_right _ h1), (hl b hm).2⟩) fun b hm hm2 => ?_
      rcases List.mem_append.1 hm2 with h1 | h1
      · exact hd b hm (by simp [h1])
      · rcases List.mem_append.1 h1 with h1 | h1
        · exact (hl b h1).1 (List.mem_append_left _ hm)
        · exact hd b hm (by simp [h1])
theorem OwL.get {σ : AH O} {ts : List TV} {vs : List AV} {L : List Nat} (h : OwL σ ts vs L) {i : Nat} {t : TV} (e : ts[i]? = some t) : ∃ v L', vs[i]? = some v ∧ Ow σ t v L' ∧ ∀ b ∈ L', b ∈ L := by
  obtain ⟨v, L1, L2, L3, g1, g2, rfl, _, _⟩ := h.split e
  exact ⟨v, L2, g1, g2, fun b hb => by simp [hb]⟩
/-- a leaf is what it is -/
theorem Ow.leaf {σ : AH O} {x v : AV} {L : List Nat} (h : Ow σ (.lf x) v L) : v = x ∧ L = [] := by
  cases h with
  | im h => cases h with | lf h => exact ⟨rfl, rfl⟩
/-- a slice can be read -/
theorem Ow.rd {σ : AH O} {el es n : Nat} {cs : List TV} {v : AV} {L : List Nat} (h : Ow σ (.sl el es n cs) v L) : ∃ a vs L', v = .sl a n ∧ Rd σ es a n vs ∧ OwL σ cs vs L' ∧ (∀ b ∈ L', b ∈ L) ∧ ∀ b ∈ SA.bk a, b ∈ L := by
  cases h with
  | im h => cases h with | sl h hc => exact ⟨_, _, [], rfl, h O σ, .im hc, by simp, by rw [h.bk]; simp⟩
  | sl h hc hd => exact ⟨_, _, _, rfl, h.rd, hc, fun b hb => List.mem_append_right _ hb, fun b hb => List.mem_append_left _ hb⟩
theorem Im.rd {el es n : Nat} {cs : List TV} {v : AV} (h : Im (.sl el es n cs) v) : ∃ a vs, v = .sl a n ∧ Imm es a n vs ∧ ImL cs vs := by
  cases h with | sl h hc => exact ⟨_, _, rfl, h, hc⟩
theorem Im.leaf {x v : AV} (h : Im (.lf x) v) : v = x := by cases h; rfl
/-- leaves alone -/
theorem ImL.ofLeaves : ∀ {xs vs : List AV}, ImL (xs.map TV.lf) vs → vs = xs
  | [], _, h => by cases h; rfl
  | x :: xs, _, h => by
    cases h with
    | cons h hc => rw [h.leaf, hc.ofLeaves]
theorem OwL.ofLeaves {σ : AH O} : ∀ {xs vs : List AV} {L : List Nat}, OwL σ (xs.map TV.lf) vs L → vs = xs ∧ L = []
  | [], _, _, h => by cases h; exact ⟨rfl, rfl⟩
  | x :: xs, _, _, h => by
    cases h with
    | cons h hc hd =>
      obtain ⟨rfl, rfl⟩ := h.leaf
      obtain ⟨rfl, rfl⟩ := hc.ofLeaves
      exact ⟨rfl, rfl⟩
theorem fmt_len {α β : Type} {enc : α → List β} {k : Nat} (hk : ∀ x, (enc x).length = k) : ∀ l : List α, (l.flatMap enc).length = l.length * k
  | [] => by simp
  | x :: l => by rw [List.flatMap_cons, List.length_append, hk, fmt_len hk l, List.length_cons, Nat.succ_mul]; omega
theorem fmt_get {α β : Type} {enc : α → List β} {k : Nat} (hk : ∀ x, (enc x).length = k) : ∀ (l : List α) (i j : Nat), j < k → (l.flatMap enc)[i * k + j]? = (l[i]?).bind fun x => (enc x)[j]?
  | [], i, j, h => by simp
  | x :: l, 0, j, h => by rw [List.flatMap_cons, Nat.zero_mul, Nat.zero_add, List.getElem?_append_left (by rw [hk]; exact h)]; rfl
  | x :: l, i + 1, j, h => by
    rw [List.flatMap_cons, List.getElem?_append_right (by rw [hk, Nat.succ_mul]; omega), hk, show (i + 1) * k + j - k = i * k + j by rw [Nat.succ_mul]; omega, fmt_get hk l i j h]
    simp
theorem OwnS.set {σ σ' : AH O} {el es n : Nat} {a : SA} {cs : List AV} {o : Nat} {v : AV} (h : OwnS σ el es a n cs) {b : Nat} (ha : a = .loc (.n b) 0 es) (hs : σ' = σ.put b (.cells true el (cs.set o v))) : OwnS σ' el es a n (cs.set o v) := by
  subst ha; subst hs
  obtain ⟨k, e1, _, _, h3, h4⟩ := h.wh
  cases e1
  exact OwnS.new (by rw [List.length_set]; exact h.len) (by simp [AH.put]) (by simpa using h4)
theorem set_same {α : Type} {l : List α} {i : Nat} {x : α} (h : l[i]? = some x) : l.set i x = l := by
  apply List.ext_getElem?
  intro j
  rw [List.getElem?_set]
  by_cases c : i = j
  · subst c
    rw [if_pos rfl, if_pos (List.getElem?_eq_some_iff.1 h).1, h]
  · rw [if_neg c]
theorem flat_ints {k : IntKind} (l : List Int) : (l.map (AV.i k)).all AV.flat = true := by simp [AV.flat]
/-- an own slice of leaves -/
theorem Ow.leaves {σ : AH O} {el es n : Nat} {a : SA} {xs : List AV} (h : OwnS σ el es a n xs) (hx : xs.all AV.flat = true) : Ow σ (.sl el es n (xs.map TV.lf)) (.sl a n) (SA.bk a) := by
  have := Ow.sl h.p (OwL.im (ImL.lfs hx)) (by simp)
  simpa using this
theorem OwL.leafSet {σ : AH O} {ts : List TV} {vs : List AV} {L : List Nat} (h : OwL σ ts vs L) {i : Nat} {x y : AV} (e : ts[i]? = some (.lf x)) (hy : y.flat = true) : OwL σ (ts.set i (.lf y)) (vs.set i y) L := by
  obtain ⟨v, L1, L2, L3, g1, g2, rfl, g4, g5⟩ := h.split e
  obtain ⟨rfl, rfl⟩ := g2.leaf
  exact g5 σ (.lf y) y [] (Nat.le_refl _) (fun _ _ => rfl) (.im (.lf hy)) (by simp)
theorem OwL.leafGet {σ : AH O} {ts : List TV} {vs : List AV} {L : List Nat} (h : OwL σ ts vs L) {i : Nat} {x : AV} (e : ts[i]? = some (.lf x)) : vs[i]? = some x := by
  obtain ⟨v, L', g1, g2, _⟩ := h.get e
  rw [g2.leaf.1] at g1; exact g1
/-- the first ones of a block of our own are frozen -/
theorem FZ.pre {d : Nat} {σ : AH O} {H : Nat → Option (Blk O)} {L : List Nat} {el es n k : Nat} {cs cs' : List AV} (hb : σ.blk k = some (.cells true el cs)) (hH : H k = σ.blk k) (hn : n * es ≤ cs.length) (hc : FZL (d + 1) H L (cs.take (n * es)) cs') (hl : cs'.length = n * es) (hd : k ∉ L) :
    FZ (d + 2) H (k :: L) (.sl (.loc (.n k) 0 es) n) (.sl (.loc (.f cs') 0 es) n) ∧ Imm es (.loc (.f cs') 0 es) n cs' := by
  refine ⟨fun σ1 hσ => ?_, Imm.f hl⟩
  have hk : σ1.blk k = some (.cells true el cs) := by rw [hσ k (by simp), hH]; exact hb
  obtain ⟨σ', e1, n1, b1⟩ := hc (σ1.kill k) fun b hb => by
    have : b ≠ k := fun e => hd (e ▸ hb)
    rw [kill_blk, if_neg this]; exact hσ b (by simp [hb])
  refine ⟨σ', ?_, by simpa using n1, fun b => ?_⟩
  · rw [frzV_sl, hk]
    simp only
    rw [Nat.ble_eq_true_of_le (by omega), cond_true, List.drop_zero, e1]; rfl
  · rw [b1, kill_blk]
    by_cases g1 : b = k <;> by_cases g2 : b ∈ L <;> simp [g1, g2]
end Go.Abs
