/-
  Rows of plain data in blocks of their own, nested ones too: made, kept, lengthened, turned, frozen. No conditions.
-/
import Derived.Test.YteklninbijohcaaN2
set_option linter.unusedVariables false
set_option linter.unusedSimpArgs false
set_option linter.constructorNameAsVariable false
namespace Go.Abs
open Go
variable {O : Type}

/-- new blocks alone stand for these -/
structure New (σ σ' : AH O) (ts : List TV) (vs : List AV) : Prop where
  e : Ext σ σ'
  it : ∃ L, OwL σ' ts vs L ∧ ∀ b ∈ L, σ.next ≤ b
theorem New.im {σ σ' : AH O} {ts : List TV} {vs : List AV} (h : ImL ts vs) (e : Ext σ σ') : New σ σ' ts vs := ⟨e, [], OwL.im h, by simp⟩
theorem New.nil {σ σ' : AH O} (e : Ext σ σ') : New σ σ' [] [] := ⟨e, [], .nil, by simp⟩
theorem New.ext {σ0 σ σ' σ'' : AH O} {ts : List TV} {vs : List AV} (h : New σ σ' ts vs) (e0 : Ext σ0 σ) (e : Ext σ' σ'') : New σ0 σ'' ts vs := by
  obtain ⟨h1, L, h2, h3⟩ := h
  exact ⟨(e0.trans h1).trans e, L, h2.of e.next fun b hb => e.blk b (h2.lt b hb), fun b hb => Nat.le_trans e0.next (h3 b hb)⟩
theorem New.keep {σ0 σ σ' σ'' : AH O} {ts : List TV} {vs : List AV} (h : New σ σ' ts vs) (e0 : σ0.next ≤ σ.next) (e : Ext σ0 σ'') (hn : σ'.next ≤ σ''.next) (hb : ∀ b, σ.next ≤ b → b < σ'.next → σ''.blk b = σ'.blk b) : New σ0 σ'' ts vs := by
  obtain ⟨h1, L, h2, h3⟩ := h
  exact ⟨e, L, h2.of hn fun b hm => hb b (h3 b hm) (h2.lt b hm), fun b hm => Nat.le_trans e0 (h3 b hm)⟩
/-- one made behind the other -/
theorem New.app {σ σ1 σ2 : AH O} {ts us : List TV} {vs ws : List AV} (h : New σ σ1 ts vs) (k : New σ1 σ2 us ws) : New σ σ2 (ts ++ us) (vs ++ ws) := by
  obtain ⟨h1, L, h2, h3⟩ := h
  obtain ⟨k1, K, k2, k3⟩ := k
  refine ⟨h1.trans k1, L ++ K, (h2.of k1.next fun b hb => k1.blk b (h2.lt b hb)).app k2 (fun b hb hm => by have := h2.lt b hb; have := k3 b hm; omega), fun b hb => ?_⟩
  rcases List.mem_append.1 hb with hb | hb
  · exact h3 b hb
  · exact Nat.le_trans h1.next (k3 b hb)
theorem New.cons {σ σ1 σ2 : AH O} {t : TV} {us : List TV} {v : AV} {ws : List AV} (h : New σ σ1 [t] [v]) (k : New σ1 σ2 us ws) : New σ σ2 (t :: us) (v :: ws) := h.app k
/-- a plain cell ahead -/
theorem New.lf {σ σ' : AH O} {x : AV} {us : List TV} {ws : List AV} (hx : x.flat = true) (k : New σ σ' us ws) : New σ σ' (.lf x :: us) (x :: ws) :=
  New.cons (New.im (σ := σ) (σ' := σ) (.cons (.lf hx) .nil) (Ext.refl _)) k
theorem New.still {σ σ' σ'' : AH O} {ts : List TV} {vs : List AV} (h : New σ σ' ts vs) (hn : σ'.next ≤ σ''.next) (hb : ∀ b, σ.next ≤ b → b < σ'.next → σ''.blk b = σ'.blk b) : ∃ L, OwL σ'' ts vs L ∧ ∀ b ∈ L, σ.next ≤ b := by
  obtain ⟨h1, L, h2, h3⟩ := h
  exact ⟨L, h2.of hn fun b hm => hb b (h3 b hm) (h2.lt b hm), h3⟩
/-- a slice of our own, made here -/
theorem New.sl {σ σ' : AH O} {m el es n : Nat} {a : SA} {cs : List TV} {vs : List AV} (e : Ext σ σ') (o : OwnP σ' el es a n vs) (k : ∃ L, OwL σ' cs vs L ∧ ∀ b ∈ L, m ≤ b) (ha : ∀ b ∈ SA.bk a, σ.next ≤ b ∧ b < m) (hm : σ.next ≤ m) : New σ σ' [.sl el es n cs] [.sl a n] := by
  obtain ⟨L, k2, k3⟩ := k
  refine ⟨e, (SA.bk a ++ L) ++ [], .cons (.sl o k2 fun b hb hl => by have := ha b hb; have := k3 b hl; omega) .nil (by simp), fun b hb => ?_⟩
  simp only [List.append_nil] at hb
  rcases List.mem_append.1 hb with hb | hb
  · exact (ha b hb).1
  · exact Nat.le_trans hm (k3 b hb)
theorem New.ints {σ σ' : AH O} {el n : Nat} {a : SA} {xs : List AV} (o : OwnS σ' el 1 a n xs) (hx : xs.all AV.flat = true) (e : Ext σ σ') (ha : ∀ b ∈ SA.bk a, σ.next ≤ b) : New σ σ' [.sl el 1 n (xs.map TV.lf)] [.sl a n] :=
  ⟨e, SA.bk a ++ [], .cons (Ow.leaves o hx) .nil (by simp), fun b hb => ha b (by simpa using hb)⟩
/-- what is given back is frozen -/
theorem frz_agg {s : Sm O} {xs : List AV} {σ : AH O} {ts : List TV} (hd : ∀ t ∈ ts, t.deep 6) (h : Ok (s xs σ) fun r => ∃ vs, r.1 = .agg vs ∧ New σ r.2 ts vs) : Ok (frz s xs σ) fun r => (∃ vs, r.1 = .agg vs ∧ ImL ts vs) ∧ Ext σ r.2 := by
  refine frz_ok (Q := fun v => ∃ vs, v = .agg vs ∧ ImL ts vs) (h.mono ?_)
  rintro ⟨v, σ'⟩ ⟨vs, rfl, h1, L, h2, h3⟩
  obtain ⟨vs', g1, g2⟩ := h2.fz (d := 6) hd
  exact ⟨.agg vs', L, FZ.agg g1, h3, h1, vs', rfl, g2⟩
theorem frz_aggs {s : Sm O} {xs : List AV} {σ : AH O} {ts : List TV} {rest : List AV} (hd : ∀ t ∈ ts, t.deep 5) (hr : rest.all AV.flat = true) (h : Ok (s xs σ) fun r => ∃ vs, r.1 = .tup (.agg vs :: rest) ∧ New σ r.2 ts vs) : Ok (frz s xs σ) fun r => (∃ vs, r.1 = .tup (.agg vs :: rest) ∧ ImL ts vs) ∧ Ext σ r.2 := by
  refine frz_ok (Q := fun v => ∃ vs, v = .tup (.agg vs :: rest) ∧ ImL ts vs) (h.mono ?_)
  rintro ⟨v, σ'⟩ ⟨vs, rfl, h1, L, h2, h3⟩
  obtain ⟨vs', g1, g2⟩ := h2.fz (d := 5) hd
  have := FZL.cons (FZ.agg g1) (FZL.flat (H := σ'.blk) hr) (by simp)
  rw [List.append_nil] at this
  exact ⟨.tup (.agg vs' :: rest), L, FZ.tup this, h3, h1, vs', rfl, g2⟩
theorem frz_sl {s : Sm O} {xs : List AV} {σ : AH O} {t : TV} (hd : t.deep 7) (h : Ok (s xs σ) fun r => New σ r.2 [t] [r.1]) : Ok (frz s xs σ) fun r => Im t r.1 ∧ Ext σ r.2 := by
  refine frz_ok (Q := fun v => Im t v) (h.mono ?_)
  rintro ⟨v, σ'⟩ ⟨h1, L, h2, h3⟩
  cases h2 with
  | cons h2 hc hd2 =>
    cases hc
    obtain ⟨v', g1, g2⟩ := h2.fz (d := 7) hd
    exact ⟨v', _, g1, fun b hb => h3 b (by simp [hb]), h1, g2⟩

theorem OwL.drop {σ : AH O} : ∀ {ts : List TV} {vs : List AV} {L : List Nat} (n : Nat), OwL σ ts vs L → ∃ L', OwL σ (ts.drop n) (vs.drop n) L' ∧ ∀ c ∈ L', c ∈ L
  | _, _, L, 0, h => ⟨L, by simpa using h, fun _ h => h⟩
  | _, _, _, n + 1, .nil => ⟨[], .nil, by simp⟩
  | _, _, _, n + 1, .cons h hc hd => by
    obtain ⟨L', g1, g2⟩ := hc.drop n
    exact ⟨L', by simpa using g1, fun c hm => List.mem_append_right _ (g2 c hm)⟩
theorem OwL.take {σ : AH O} : ∀ {ts : List TV} {vs : List AV} {L : List Nat} (n : Nat), OwL σ ts vs L → ∃ L', OwL σ (ts.take n) (vs.take n) L' ∧ ∀ c ∈ L', c ∈ L
  | _, _, _, 0, h => ⟨[], by simpa using OwL.nil, by simp⟩
  | _, _, _, n + 1, .nil => ⟨[], by simpa using OwL.nil, by simp⟩
  | _, _, _, n + 1, .cons (L1 := A) h hc hd => by
    obtain ⟨L', g1, g2⟩ := hc.take n
    refine ⟨A ++ L', by simpa using OwL.cons h g1 (fun b hb hm => hd b hb (g2 b hm)), fun c hm => ?_⟩
    rcases List.mem_append.1 hm with hm | hm
    · exact List.mem_append_left _ hm
    · exact List.mem_append_right _ (g2 c hm)
theorem Bld.out {α : Type} {σ σ' : AH O} {el k : Nat} {row : α → List TV} {a : SA} {l : List α} (h : Bld σ' el k row a l) (e : Ext σ σ') (ha : ∀ b ∈ SA.bk a, σ.next ≤ b) : New σ σ' [.sl el k l.length (l.flatMap row)] [.sl a l.length] := by
  obtain ⟨vs, h1, h2⟩ := h.it
  exact ⟨e, (SA.bk a ++ []) ++ [], .cons (.sl h1.p (OwL.im h2) (by simp)) .nil (by simp), fun b hb => ha b (by simpa using hb)⟩
/-! ### A slice that is built up, its parts in blocks of their own -/
structure BldO {α : Type} (base : Nat) (σ : AH O) (el k : Nat) (row : α → List TV) (a : SA) (l : List α) : Prop where
  hk : ∀ x, (row x).length = k
  it : ∃ vs L, OwnP σ el k a l.length vs ∧ OwL σ (l.flatMap row) vs L ∧ (∀ b ∈ SA.bk a, b ∉ L) ∧ ∀ b ∈ SA.bk a ++ L, base ≤ b
section bldo
variable {α : Type} {base : Nat} {σ : AH O} {el k : Nat} {row : α → List TV} {a : SA} {l : List α}
theorem BldO.nil (base : Nat) (σ : AH O) (el : Nat) (hk : ∀ x, (row x).length = k) : BldO base σ el k row .nil [] := ⟨hk, [], [], (OwnS.nil _ _ _).p, .nil, by simp [SA.bk], by simp [SA.bk]⟩
theorem BldO.z (base : Nat) (σ : AH O) (el : Nat) (hk : ∀ x, (row x).length = k) : BldO base σ el k row .z [] := ⟨hk, [], [], (OwnS.z _ _ _).p, .nil, by simp [SA.bk], by simp [SA.bk]⟩
theorem BldO.new {b : Nat} (hk : ∀ x, (row x).length = k) (h : σ.blk b = some (.cells true el [])) (hb : b < σ.next) (h0 : base ≤ b) : BldO base σ el k row (.loc (.n b) 0 k) [] := ⟨hk, [], [], (OwnS.new (by simp) h hb).p, .nil, by simp, by simp [SA.bk]; exact h0⟩
theorem BldO.low (h : BldO base σ el k row a l) {base' : Nat} (hb : base' ≤ base) : BldO base' σ el k row a l := by
  obtain ⟨hk, vs, L, h1, h2, h3, h4⟩ := h
  exact ⟨hk, vs, L, h1, h2, h3, fun b hm => Nat.le_trans hb (h4 b hm)⟩
/-- others may turn -/
theorem BldO.keep {σ' : AH O} (h : BldO base σ el k row a l) (hn : σ.next ≤ σ'.next) (hb : ∀ b, base ≤ b → b < σ.next → σ'.blk b = σ.blk b) : BldO base σ' el k row a l := by
  obtain ⟨hk, vs, L, h1, h2, h3, h4⟩ := h
  exact ⟨hk, vs, L, h1.of hn fun b hm => hb b (h4 b (List.mem_append_left _ hm)) (h1.lt b hm), h2.of hn fun b hm => hb b (h4 b (List.mem_append_right _ hm)) (h2.lt b hm), h3, h4⟩
theorem BldO.ext {σ' : AH O} (h : BldO base σ el k row a l) (e : Ext σ σ') : BldO base σ' el k row a l := h.keep e.next fun b _ hb => e.blk b hb
theorem BldO.bk (h : BldO base σ el k row a l) : ∀ b ∈ SA.bk a, base ≤ b ∧ b < σ.next := by
  obtain ⟨hk, vs, L, h1, h2, h3, h4⟩ := h
  exact fun b hb => ⟨h4 b (by simp [hb]), h1.lt b hb⟩
/-- so many more, made behind it -/
theorem BldO.app {σ2 σ3 : AH O} {m : List α} {new : List AV} {nid : Nat} (h : BldO base σ el k row a l) (hb : base ≤ σ.next) (n : New σ σ2 (m.flatMap row) new) (e : Ext σ2 σ3) (h1 : σ2.next ≤ nid) (h2 : nid < σ3.next) :
    Ok (σ3.appSl nid el k a l.length m.length new) fun r => ∃ a', r.1 = .sl a' (l.length + m.length) ∧ BldO base r.2 el k row a' (l ++ m) ∧ r.2.next = σ3.next ∧ (∀ b, b ≠ nid → b ∉ SA.bk a → r.2.blk b = σ3.blk b) ∧ ∀ b ∈ SA.bk a', b = nid ∨ b ∈ SA.bk a := by
  obtain ⟨hk, vs, L, p1, p2, p3, p4⟩ := h
  obtain ⟨e1, K, n1, n2⟩ := n
  have E := e1.trans e
  have q1 : OwnP σ3 el k a l.length vs := p1.of E.next fun b hm => E.blk b (p1.lt b hm)
  have q2 : OwL σ3 (l.flatMap row) vs L := p2.of E.next fun b hm => E.blk b (p2.lt b hm)
  have q3 : OwL σ3 (m.flatMap row) new K := n1.of e.next fun b hm => e.blk b (n1.lt b hm)
  have len := e1.next
  refine (app_okP q1 (fun hm => by have := p1.lt _ hm; omega) h2 (by rw [n1.len, fmt_len hk])).mono ?_
  rintro ⟨q, σ4⟩ ⟨a', g1, g2, g3, g4, g5⟩
  simp only at g1 g2 g3 g4
  have all := q2.app q3 fun b hb hm => by have := p2.lt b hb; have := n2 b hm; omega
  refine ⟨a', g1, ⟨hk, vs ++ new, L ++ K, ?_, ?_, fun b hb hm => ?_, fun b hb => ?_⟩, g3, g4, fun b hb => .inl (g5 b hb)⟩
  · rw [List.length_append]; exact g2
  · rw [List.flatMap_append]
    refine all.of (by show σ3.next ≤ σ4.next; omega) fun b hb => ?_
    rcases List.mem_append.1 hb with hb | hb
    · exact g4 b (by have := p2.lt b hb; omega) fun hm => p3 b hm hb
    · exact g4 b (by have := n1.lt b hb; omega) fun hm => by have := p1.lt b hm; have := n2 b hb; omega
  · have := g5 b hb
    rcases List.mem_append.1 hm with hm | hm
    · have := p2.lt b hm; omega
    · have := n1.lt b hm; omega
  · rcases List.mem_append.1 hb with hb | hb
    · have := g5 b hb; omega
    · rcases List.mem_append.1 hb with hb | hb
      · exact p4 b (by simp [hb])
      · have := n2 b hb; omega
theorem BldO.app1 {σ2 σ3 : AH O} {x : α} {new : List AV} {nid : Nat} (h : BldO base σ el k row a l) (hb : base ≤ σ.next) (n : New σ σ2 (row x) new) (e : Ext σ2 σ3) (h1 : σ2.next ≤ nid) (h2 : nid < σ3.next) :
    Ok (σ3.appSl nid el k a l.length 1 new) fun r => ∃ a', r.1 = .sl a' (l.length + 1) ∧ BldO base r.2 el k row a' (l ++ [x]) ∧ r.2.next = σ3.next ∧ (∀ b, b ≠ nid → b ∉ SA.bk a → r.2.blk b = σ3.blk b) ∧ ∀ b ∈ SA.bk a', b = nid ∨ b ∈ SA.bk a :=
  h.app (m := [x]) hb (by simpa using n) e h1 h2
/-- what was made stands there, not under this number -/
theorem New.at_ {σa σb σc : AH O} {ts : List TV} {vs : List AV} {p nid : Nat} (h : New σa σb ts vs) (hn : σb.next ≤ σc.next) (hf : ∀ b, σa.next ≤ b → b < σb.next → σc.blk b = σb.blk b) (h0 : p ≤ σa.next) (hnid : nid < σa.next ∨ σb.next ≤ nid) : ∃ K, OwL σc ts vs K ∧ ∀ b ∈ K, p ≤ b ∧ b ≠ nid := by
  obtain ⟨h1, L, h2, h3⟩ := h
  exact ⟨L, h2.of hn fun b hm => hf b (h3 b hm) (h2.lt b hm), fun b hm => ⟨Nat.le_trans h0 (h3 b hm), fun e => by have := h3 b hm; have := h2.lt b hm; omega⟩⟩
theorem BldO.app' {σ3 : AH O} {m : List α} {new : List AV} {nid : Nat} (h : BldO base σ el k row a l) (hb : base ≤ σ.next) (hn : σ.next ≤ σ3.next) (hf : ∀ b, base ≤ b → b < σ.next → σ3.blk b = σ.blk b) (n : ∃ K, OwL σ3 (m.flatMap row) new K ∧ ∀ b ∈ K, σ.next ≤ b ∧ b ≠ nid) (h1 : σ.next ≤ nid) (h2 : nid < σ3.next) :
    Ok (σ3.appSl nid el k a l.length m.length new) fun r => ∃ a', r.1 = .sl a' (l.length + m.length) ∧ BldO base r.2 el k row a' (l ++ m) ∧ r.2.next = σ3.next ∧ (∀ b, b ≠ nid → b ∉ SA.bk a → r.2.blk b = σ3.blk b) ∧ ∀ b ∈ SA.bk a', b = nid ∨ b ∈ SA.bk a := by
  obtain ⟨K, q3, n2⟩ := n
  obtain ⟨hk, vs, L, p1, p2, p3, p4⟩ := h
  have q1 : OwnP σ3 el k a l.length vs := p1.of hn fun b hm => hf b (p4 b (by simp [hm])) (p1.lt b hm)
  have q2 : OwL σ3 (l.flatMap row) vs L := p2.of hn fun b hm => hf b (p4 b (by simp [hm])) (p2.lt b hm)
  refine (app_okP q1 (fun hm => by have := p1.lt _ hm; omega) h2 (by rw [q3.len, fmt_len hk])).mono ?_
  rintro ⟨q, σ4⟩ ⟨a', g1, g2, g3, g4, g5⟩
  simp only at g1 g2 g3 g4
  have all := q2.app q3 fun b hb hm => by have := p2.lt b hb; have := n2 b hm; omega
  refine ⟨a', g1, ⟨hk, vs ++ new, L ++ K, ?_, ?_, fun b hb hm => ?_, fun b hb => ?_⟩, g3, g4, fun b hb => .inl (g5 b hb)⟩
  · rw [List.length_append]; exact g2
  · rw [List.flatMap_append]
    refine all.of (by show σ3.next ≤ σ4.next; omega) fun b hb => ?_
    rcases List.mem_append.1 hb with hb | hb
    · exact g4 b (by have := p2.lt b hb; omega) fun hm => p3 b hm hb
    · exact g4 b (n2 b hb).2 fun hm => by have := p1.lt b hm; have := n2 b hb; omega
  · have := g5 b hb
    rcases List.mem_append.1 hm with hm | hm
    · have := p2.lt b hm; omega
    · have := (n2 b hm).2; omega
  · rcases List.mem_append.1 hb with hb | hb
    · have := g5 b hb; omega
    · rcases List.mem_append.1 hb with hb | hb
      · exact p4 b (by simp [hb])
      · have := n2 b hb; omega
/-- the same, under a number that was kept free -/
theorem BldO.appR {σ3 : AH O} {m : List α} {new : List AV} {nid base0 : Nat} (h : BldO base σ el k row a l) (hb0 : base0 ≤ base) (h0 : base0 ≤ nid) (hb : base ≤ σ.next) (hn : σ.next ≤ σ3.next) (hf : ∀ b, base ≤ b → b < σ.next → σ3.blk b = σ.blk b) (n : ∃ K, OwL σ3 (m.flatMap row) new K ∧ ∀ b ∈ K, σ.next ≤ b ∧ b ≠ nid) (h1 : nid < base ∨ σ.next ≤ nid) (h2 : nid < σ3.next) :
    Ok (σ3.appSl nid el k a l.length m.length new) fun r => ∃ a', r.1 = .sl a' (l.length + m.length) ∧ BldO base0 r.2 el k row a' (l ++ m) ∧ r.2.next = σ3.next ∧ (∀ b, b ≠ nid → b ∉ SA.bk a → r.2.blk b = σ3.blk b) ∧ ∀ b ∈ SA.bk a', b = nid ∨ b ∈ SA.bk a := by
  obtain ⟨K, q3, n2⟩ := n
  obtain ⟨hk, vs, L, p1, p2, p3, p4⟩ := h
  have q1 : OwnP σ3 el k a l.length vs := p1.of hn fun b hm => hf b (p4 b (by simp [hm])) (p1.lt b hm)
  have q2 : OwL σ3 (l.flatMap row) vs L := p2.of hn fun b hm => hf b (p4 b (by simp [hm])) (p2.lt b hm)
  refine (app_okP q1 (fun hm => by have := p1.lt _ hm; have := p4 _ (List.mem_append_left _ hm); omega) h2 (by rw [q3.len, fmt_len hk])).mono ?_
  rintro ⟨q, σ4⟩ ⟨a', g1, g2, g3, g4, g5⟩
  simp only at g1 g2 g3 g4
  have all := q2.app q3 fun b hb hm => by have := p2.lt b hb; have := n2 b hm; omega
  refine ⟨a', g1, ⟨hk, vs ++ new, L ++ K, ?_, ?_, fun b hb hm => ?_, fun b hb => ?_⟩, g3, g4, fun b hb => .inl (g5 b hb)⟩
  · rw [List.length_append]; exact g2
  · rw [List.flatMap_append]
    refine all.of (by show σ3.next ≤ σ4.next; omega) fun b hb => ?_
    rcases List.mem_append.1 hb with hb | hb
    · exact g4 b (by have := p2.lt b hb; have := p4 b (List.mem_append_right _ hb); omega) fun hm => p3 b hm hb
    · exact g4 b (n2 b hb).2 fun hm => by have := p1.lt b hm; have := n2 b hb; omega
  · have := g5 b hb
    rcases List.mem_append.1 hm with hm | hm
    · have := p2.lt b hm; have := p4 b (List.mem_append_right _ hm); omega
    · have := (n2 b hm).2; omega
  · rcases List.mem_append.1 hb with hb | hb
    · have := g5 b hb; omega
    · rcases List.mem_append.1 hb with hb | hb
      · have := p4 b (by simp [hb]); omega
      · have := n2 b hb; omega
/-- all of it is read -/
theorem BldO.all (h : BldO base σ el k row a l) : ∃ vs K, σ.rdSl a l.length k = some vs ∧ OwL σ (l.flatMap row) vs K ∧ ∀ b ∈ K, base ≤ b ∧ b < σ.next := by
  obtain ⟨hk, vs, L, p1, p2, p3, p4⟩ := h
  exact ⟨vs, L, p1.rd.rdSl, p2, fun b hb => ⟨p4 b (by simp [hb]), p2.lt b hb⟩⟩
/-- it is new -/
theorem BldO.out {σ0 : AH O} (h : BldO base σ el k row a l) (e : Ext σ0 σ) (hb : σ0.next ≤ base) : New σ0 σ [.sl el k l.length (l.flatMap row)] [.sl a l.length] := by
  obtain ⟨hk, vs, L, h1, h2, h3, h4⟩ := h
  exact ⟨e, (SA.bk a ++ L) ++ [], .cons (.sl h1 h2 h3) .nil (by simp), fun b hm => Nat.le_trans hb (h4 b (by simpa using hm))⟩
/-- one of them is read -/
theorem BldO.get (h : BldO base σ el k row a l) {i : Nat} {x : α} (hx : l[i]? = some x) : ∃ b us L, a = .loc (.n b) 0 k ∧ base ≤ b ∧ b < σ.next ∧ OwL σ (row x) us L ∧ (∀ c ∈ L, base ≤ c ∧ c < σ.next ∧ c ≠ b) ∧ ∀ j, j < k → σ.ld (.n b) (i * k + j) = us[j]? := by
  obtain ⟨hk, vs, L, h1, h2, h3, h4⟩ := h
  have hi := (List.getElem?_eq_some_iff.1 hx).1
  obtain ⟨b, rest, rfl, hb, hlt⟩ := h1.loc (by omega)
  have hle : i * k + k ≤ l.length * k := by rw [← Nat.succ_mul]; exact Nat.mul_le_mul_right _ hi
  have hvl := h1.len
  obtain ⟨L0, g0, g3⟩ := h2.drop (i * k)
  obtain ⟨L', g1, g4⟩ := g0.take k
  have g2 := fun c hc => g3 c (g4 c hc)
  have e : ((l.flatMap row).drop (i * k)).take k = row x := by
    apply List.ext_getElem?
    intro j
    rw [List.getElem?_take]
    split
    · rename_i hj
      rw [List.getElem?_drop, fmt_get hk _ _ _ hj, hx]; rfl
    · rename_i hj
      rw [List.getElem?_eq_none]
      rw [hk]; omega
  rw [e] at g1
  refine ⟨b, _, L', rfl, h4 b (by simp [SA.bk]), hlt, g1, fun c hc => ⟨h4 c (by simp [g2 c hc]), h2.lt c (g2 c hc), fun e => h3 b (by simp [SA.bk]) (e ▸ g2 c hc)⟩, fun j hj => ?_⟩
  rw [s_ld, hb, s_ldM, List.getElem?_take, if_pos hj, List.getElem?_drop, List.getElem?_append_left (by omega)]
/-- the first ones alone -/
theorem BldO.less (h : BldO base σ el k row a l) {m : Nat} (hm : m ≤ l.length) : BldO base σ el k row a (l.take m) := by
  obtain ⟨hk, vs, L, h1, h2, h3, h4⟩ := h
  obtain ⟨L', g1, g2⟩ := h2.take (m * k)
  refine ⟨hk, vs.take (m * k), L', ?_, by rw [flat_take hk]; exact g1, fun b hb hl => h3 b hb (g2 b hl), fun b hb => ?_⟩
  · rw [List.length_take, Nat.min_eq_left hm]; exact h1.less hm
  · rcases List.mem_append.1 hb with hb | hb
    · exact h4 b (by simp [hb])
    · exact h4 b (by simp [g2 b hb])
end bldo
end Go.Abs
