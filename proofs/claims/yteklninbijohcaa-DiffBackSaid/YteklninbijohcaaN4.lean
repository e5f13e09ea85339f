/-
  Rows in blocks of their own whose parts are not frozen: they may be written. No conditions.
-/
import Derived.Test.YteklninbijohcaaN3
set_option linter.unusedVariables false
set_option linter.unusedSimpArgs false
set_option linter.constructorNameAsVariable false
namespace Go.Abs
open Go
variable {O : Type}

/-- a slice that is not frozen, or empty -/
def _root_.Go.Abs.AV.mine : AV → Bool
  | .sl (.loc (.f _) _ _) n => Nat.beq n 0
  | _ => true
theorem mine_bk {a : SA} {n : Nat} (h : SA.bk a ≠ [] ∨ n = 0) : (AV.sl a n).mine = true := by
  match a with
  | .nil => rfl
  | .z => rfl
  | .loc (.n b) _ _ => rfl
  | .loc (.f c) _ _ =>
    rcases h with h | rfl
    · exact absurd rfl h
    · rfl
theorem OwnP.mine {σ : AH O} {el es n : Nat} {a : SA} {cs : List AV} (h : OwnP σ el es a n cs) : (AV.sl a n).mine = true := by
  have h2 := h.wh
  match a, h2 with
  | .nil, _ => rfl
  | .z, _ => rfl
  | .loc (.n b) _ _, _ => rfl
  | .loc (.f c) _ _, ⟨_, _, e, _⟩ => cases e
theorem Ow.open_ {σ : AH O} {el es n : Nat} {cs : List TV} {a : SA} {L : List Nat} (h : Ow σ (.sl el es n cs) (.sl a n) L) (hm : (AV.sl a n).mine = true) (hn : n ≠ 0) : ∃ b rest vs M, a = .loc (.n b) 0 es ∧ σ.blk b = some (.cells true el (vs ++ rest)) ∧ vs.length = n * es ∧ b < σ.next ∧ OwL σ cs vs M ∧ L = b :: M ∧ b ∉ M := by
  cases h with
  | im h =>
    cases h with
    | sl h hc =>
      obtain ⟨b, o, rfl, _⟩ := (h O σ).ref (i := 0) (by omega)
      have hb := h.bk
      match b, hb, hm with
      | .f c, _, hm => exact absurd (Nat.eq_of_beq_eq_true hm) hn
      | .n c, hb, _ => simp [SA.bk] at hb
  | sl h hc hd =>
    obtain ⟨b, rest, rfl, h2, h3⟩ := h.loc hn
    exact ⟨b, rest, _, _, rfl, h2, h.len, h3, hc, rfl, hd b (by simp [SA.bk])⟩
theorem OwL.cut {σ : AH O} : ∀ {ts us : List TV} {vs : List AV} {L : List Nat}, OwL σ (ts ++ us) vs L → ∃ v w A B, vs = v ++ w ∧ L = A ++ B ∧ OwL σ ts v A ∧ OwL σ us w B ∧ ∀ b ∈ A, b ∉ B
  | [], us, vs, L, h => ⟨[], vs, [], L, rfl, rfl, .nil, h, by simp⟩
  | t :: ts, us, _, _, .cons (L1 := C) h hc hd => by
    obtain ⟨v, w, A, B, rfl, rfl, h1, h2, h3⟩ := hc.cut
    refine ⟨_ :: v, w, C ++ A, B, rfl, by simp, .cons h h1 fun b hb hm => hd b hb (by simp [hm]), h2, fun b hb hm => ?_⟩
    rcases List.mem_append.1 hb with hb | hb
    · exact hd b hb (by simp [hm])
    · exact h3 b hb hm
theorem splice_mid {v u w n : List AV} {o : Nat} (hv : v.length = o) (hn : n.length = u.length) : splice (v ++ (u ++ w)) o n = v ++ (n ++ w) := by
  subst hv
  unfold splice
  rw [List.take_left, List.drop_append, List.drop_eq_nil_of_le (by omega), Nat.add_sub_cancel_left, hn, List.drop_left]; simp
/-- rows, in these blocks -/
structure BldM {α : Type} (σ : AH O) (el k : Nat) (row : α → List TV) (a : SA) (l : List α) (L : List Nat) : Prop where
  hk : ∀ x, (row x).length = k
  it : ∃ vs M, OwnP σ el k a l.length vs ∧ OwL σ (l.flatMap row) vs M ∧ (∀ b ∈ SA.bk a, b ∉ M) ∧ L = SA.bk a ++ M ∧ vs.all AV.mine = true
section bldm
variable {α : Type} {σ : AH O} {el k : Nat} {row : α → List TV} {a : SA} {l : List α} {L : List Nat}
theorem BldM.ow (h : BldM σ el k row a l L) : Ow σ (.sl el k l.length (l.flatMap row)) (.sl a l.length) L := by
  obtain ⟨hk, vs, M, h1, h2, h3, rfl, h5⟩ := h
  exact .sl h1 h2 h3
theorem BldM.nil (σ : AH O) (el : Nat) (hk : ∀ x, (row x).length = k) : BldM σ el k row .nil [] [] := ⟨hk, [], [], (OwnS.nil _ _ _).p, .nil, by simp [SA.bk], by simp [SA.bk], rfl⟩
theorem BldM.lt (h : BldM σ el k row a l L) : ∀ b ∈ L, b < σ.next := h.ow.lt
theorem BldM.of {σ' : AH O} (h : BldM σ el k row a l L) (hn : σ.next ≤ σ'.next) (hb : ∀ b ∈ L, σ'.blk b = σ.blk b) : BldM σ' el k row a l L := by
  obtain ⟨hk, vs, M, h1, h2, h3, rfl, h5⟩ := h
  exact ⟨hk, vs, M, h1.of hn fun b hm => hb b (by simp [hm]), h2.of hn fun b hm => hb b (by simp [hm]), h3, rfl, h5⟩
theorem BldM.bk (h : BldM σ el k row a l L) : ∀ b ∈ SA.bk a, b ∈ L := by
  obtain ⟨hk, vs, M, h1, h2, h3, rfl, h5⟩ := h
  exact fun b hb => by simp [hb]
theorem BldM.less (h : BldM σ el k row a l L) {m : Nat} (hm : m ≤ l.length) : ∃ L', BldM σ el k row a (l.take m) L' ∧ ∀ b ∈ L', b ∈ L := by
  obtain ⟨hk, vs, M, h1, h2, h3, rfl, h5⟩ := h
  obtain ⟨L', g1, g2⟩ := h2.take (m * k)
  refine ⟨SA.bk a ++ L', ⟨hk, vs.take (m * k), L', ?_, by rw [flat_take hk]; exact g1, fun b hb hl => h3 b hb (g2 b hl), rfl, ?_⟩, fun b hb => ?_⟩
  · rw [List.length_take, Nat.min_eq_left hm]; exact h1.less hm
  · rw [List.all_eq_true] at h5 ⊢
    exact fun v hv => h5 v (List.mem_of_mem_take hv)
  · rcases List.mem_append.1 hb with hb | hb
    · simp [hb]
    · simp [g2 b hb]
/-- one more -/
theorem BldM.app {x : α} {new : List AV} {nid : Nat} {K : List Nat} (h : BldM σ el k row a l L) (q3 : OwL σ (row x) new K) (hd : ∀ b ∈ L, b ∉ K) (hm : new.all AV.mine = true) (h1 : nid ∉ L ∧ nid ∉ K) (h2 : nid < σ.next) :
    Ok (σ.appSl nid el k a l.length 1 new) fun r => ∃ a' L', r.1 = .sl a' (l.length + 1) ∧ BldM r.2 el k row a' (l ++ [x]) L' ∧ r.2.next = σ.next ∧ (∀ b, b ≠ nid → b ∉ L → r.2.blk b = σ.blk b) ∧ ∀ b ∈ L', b = nid ∨ b ∈ L ∨ b ∈ K := by
  obtain ⟨hk, vs, M, p1, p2, p3, rfl, p5⟩ := h
  have e0 : ∀ {b}, b ∈ SA.bk a ++ M ↔ b ∈ SA.bk a ∨ b ∈ M := List.mem_append
  refine (app_okP p1 (fun hm => h1.1 (by simp [hm])) h2 (by rw [q3.len, hk, Nat.one_mul])).mono ?_
  rintro ⟨q, σ4⟩ ⟨a', g1, g2, g3, g4, g5⟩
  simp only at g1 g2 g3 g4
  have all := p2.app q3 fun b hb hm => hd b (by simp [hb]) hm
  refine ⟨a', SA.bk a' ++ (M ++ K), g1, ⟨hk, vs ++ new, M ++ K, ?_, ?_, fun b hb hm => ?_, rfl, by rw [List.all_append, p5, hm]; rfl⟩, g3, fun b e1 e2 => g4 b e1 fun hm => e2 (by simp [hm]), fun b hb => ?_⟩
  · rw [List.length_append]; exact g2
  · rw [List.flatMap_append, List.flatMap_cons, List.flatMap_nil, List.append_nil]
    refine all.of (by show σ.next ≤ σ4.next; omega) fun b hb => ?_
    rcases List.mem_append.1 hb with hb | hb
    · exact g4 b (fun e => h1.1 (by simp [← e, hb])) fun hm => p3 b hm hb
    · exact g4 b (fun e => h1.2 (by simp [← e, hb])) fun hm => hd b (by simp [hm]) hb
  · have e := g5 b hb
    subst e
    rcases List.mem_append.1 hm with hm | hm
    · exact h1.1 (by simp [hm])
    · exact h1.2 hm
  · rcases List.mem_append.1 hb with hb | hb
    · exact .inl (g5 b hb)
    · rcases List.mem_append.1 hb with hb | hb
      · exact .inr (.inl (by simp [hb]))
      · exact .inr (.inr hb)
/-- one of them is opened, and closed with another in its place -/
theorem BldM.open_ (h : BldM σ el k row a l L) {i : Nat} {x : α} (hx : l[i]? = some x) : ∃ b v u w M, a = .loc (.n b) 0 k ∧ b ∈ L ∧ σ.blk b = some (.cells true el (v ++ (u ++ w))) ∧ v.length = i * k ∧ u.length = k ∧ u.all AV.mine = true ∧ OwL σ (row x) u M ∧ (∀ c ∈ M, c ∈ L ∧ c ≠ b) ∧
    ∀ (σ' : AH O) (y : α) (u' : List AV) (M' : List Nat), σ.next ≤ σ'.next → σ'.blk b = some (.cells true el (v ++ (u' ++ w))) → (∀ c ∈ L, c ≠ b → c ∉ M → σ'.blk c = σ.blk c) → OwL σ' (row y) u' M' → (∀ c ∈ M', c ∈ M ∨ c ∉ L) → u'.all AV.mine = true → ∃ L', BldM σ' el k row a (l.set i y) L' ∧ ∀ c ∈ L', c ∈ L ∨ c ∈ M' := by
  obtain ⟨hk, vs, N, h1, h2, h3, rfl, h5⟩ := h
  have hi := (List.getElem?_eq_some_iff.1 hx).1
  obtain ⟨l1, l2, hl, hl1⟩ : ∃ l1 l2, l = l1 ++ x :: l2 ∧ l1.length = i := by
    refine ⟨l.take i, l.drop (i + 1), ?_, by simp; omega⟩
    have e : l[i] = x := (List.getElem?_eq_some_iff.1 hx).2
    rw [← e, ← List.drop_eq_getElem_cons hi, List.take_append_drop]
  subst hl1
  obtain ⟨b, rest, rfl, hb, hlt⟩ := h1.loc (by omega)
  have hset : ∀ y, l.set l1.length y = l1 ++ y :: l2 := fun y => by subst hl; simp
  have hlen := h1.len
  rw [hl, List.flatMap_append, List.flatMap_cons] at h2
  obtain ⟨v, vw, A, MB, rfl, rfl, g1, g2, g3⟩ := h2.cut
  obtain ⟨u, w, M, B, rfl, rfl, g4, g5, g6⟩ := g2.cut
  have nb : b ∉ A ++ (M ++ B) := h3 b (by simp [SA.bk])
  simp only [List.mem_append, not_or] at nb
  have lv : v.length = l1.length * k := by rw [g1.len, fmt_len hk]
  have lu : u.length = k := by rw [g4.len, hk]
  simp only [List.all_append, Bool.and_eq_true] at h5
  refine ⟨b, v, u, w ++ rest, M, rfl, by simp [SA.bk], by simpa using hb, lv, lu, h5.2.1, g4, fun c hc => ⟨by simp [hc], fun e => nb.2.1 (e ▸ hc)⟩, ?_⟩
  intro σ' y u' M' hn hb' hf ho hM hm
  have lu' : u'.length = k := by rw [ho.len, hk]
  have oA := g1.of hn fun c hc => hf c (by simp [hc]) (fun e => nb.1 (e ▸ hc)) fun hm => g3 c hc (by simp [hm])
  have oB := g5.of hn fun c hc => hf c (by simp [hc]) (fun e => nb.2.2 (e ▸ hc)) fun hm => g6 c hm hc
  have nM : b ∉ M' := fun hc => by
    rcases hM b hc with h | h
    · exact nb.2.1 h
    · exact h (by simp [SA.bk])
  refine ⟨SA.bk (.loc (.n b) 0 k) ++ (A ++ (M' ++ B)), ⟨hk, v ++ (u' ++ w), A ++ (M' ++ B), ?_, ?_, ?_, rfl, by simp [h5.1, hm, h5.2.2]⟩, ?_⟩
  · rw [List.length_set]
    refine ⟨?_, b, rest, rfl, rfl, rfl, by simpa using hb', by omega⟩
    rw [← hlen]; simp [lu, lu']
  · rw [hset, List.flatMap_append, List.flatMap_cons]
    refine oA.app (ho.app oB fun c hc hm => ?_) fun c hc hm => ?_
    · rcases hM c hc with h | h
      · exact g6 c h hm
      · exact h (by simp [hm])
    · rcases List.mem_append.1 hm with hm | hm
      · rcases hM c hm with h | h
        · exact g3 c hc (by simp [h])
        · exact h (by simp [hc])
      · exact g3 c hc (by simp [hm])
  · intro c hc
    simp only [SA.bk, List.mem_singleton] at hc
    subst hc
    simp only [List.mem_append, not_or]
    exact ⟨nb.1, nM, nb.2.2⟩
  · intro c hc
    simp only [SA.bk, List.mem_append, List.mem_singleton] at hc ⊢
    rcases hc with rfl | hc | hc | hc
    · exact .inl (.inl rfl)
    · exact .inl (.inr (.inl hc))
    · exact .inr hc
    · exact .inl (.inr (.inr (.inr hc)))
end bldm
end Go.Abs
