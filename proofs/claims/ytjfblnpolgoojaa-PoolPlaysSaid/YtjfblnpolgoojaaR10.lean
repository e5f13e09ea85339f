/-
  The document of layer 10: its states as trees. No conditions.
-/
import Derived.Test.YtjfblnpolgoojaaN1
import Derived.Test.YtjfblnpolgoojaaM10d
set_option linter.unusedVariables false
set_option linter.unusedSimpArgs false
set_option linter.constructorNameAsVariable false
set_option linter.unusedSimpArgs false
set_option linter.unusedVariables false
set_option linter.unusedSectionVars false
set_option maxHeartbeats 1000000
namespace Go.Abs.Try
open Go Go.Abs
variable {O : Type}

structure DE where
  tk : Bool
  gen : Int
  ws : List Int
def DE.row (e : DE) : List TV := [.lf (.b e.tk), .lf (.i .i64 e.gen), .sl 22 1 e.ws.length ((e.ws.map (AV.i .u64)).map TV.lf)]
theorem DE.len (e : DE) : e.row.length = 3 := rfl
structure DS where
  words : Int
  L : List DE
  free : List Int
  room : Int
def DS.tl (S : DS) : TV := .sl 130 3 S.L.length (S.L.flatMap DE.row)
def DS.tf (S : DS) : TV := .sl 3 1 S.free.length ((S.free.map (AV.i .i64)).map TV.lf)
structure DS.small (S : DS) : Prop where
  l : S.L.length ≤ 1000
  f : S.free.length ≤ 1000
  w : ∀ e ∈ S.L, e.ws.length ≤ 1000
/-- the state stands frozen -/
def DS.at_ (S : DS) (v : AV) : Prop := ∃ a b, v = .agg [.i .i64 S.words, a, b, .i .i64 S.room] ∧ Im S.tl a ∧ Im S.tf b
/-- the words of the j-th entry stand in a block of their own -/
def OwnAt (vs : List AV) (j : Nat) : Prop := ∃ a n, vs[j * 3 + 2]? = some (.sl a n) ∧ (n ≠ 0 → ∃ b, a = .loc (.n b) 0 1)
theorem copied_loop {σ : AH O} {S : DS} (hs : S.small) {a : SA} {vs : List AV} {L : List Nat} {base : Nat} (o : OwnS σ 130 3 a S.L.length vs) (c : OwL σ (S.L.flatMap DE.row) vs L) (hd : ∀ b ∈ SA.bk a, b ∉ L) (hb : ∀ b ∈ SA.bk a ++ L, base ≤ b) (hn : base ≤ σ.next) :
    Ok (loopF (S := List AV × AH O) (T := List AV × AH O) (haymowref10_copied_L1 (a, S.L.length)) ([(.i .i64 0)], σ)) fun r => ∃ σ' vs' L', r = ([], σ') ∧ OwnS σ' 130 3 a S.L.length vs' ∧ OwL σ' (S.L.flatMap DE.row) vs' L' ∧ (∀ b ∈ SA.bk a, b ∉ L') ∧ (∀ b ∈ SA.bk a ++ L', base ≤ b) ∧ σ.next ≤ σ'.next ∧ (∀ b, b < base → σ'.blk b = σ.blk b) ∧ ∀ j, j < S.L.length → OwnAt vs' j := by
  have hsl := hs.l
  refine Ok.count S.L.length (fun k s => ∃ σ' vs' L', s = ([.i .i64 (k : Int)], σ') ∧ OwnS σ' 130 3 a S.L.length vs' ∧ OwL σ' (S.L.flatMap DE.row) vs' L' ∧ (∀ b ∈ SA.bk a, b ∉ L') ∧ (∀ b ∈ SA.bk a ++ L', base ≤ b) ∧ σ.next ≤ σ'.next ∧ (∀ b, b < base → σ'.blk b = σ.blk b) ∧ ∀ j, j < k → OwnAt vs' j) ?_ ?_ ⟨σ, vs, L, rfl, o, c, hd, hb, Nat.le_refl _, fun _ _ => rfl, fun j hj => by omega⟩
  · rintro k s hk ⟨σ1, vs1, L1, rfl, o1, c1, hd1, hb1, n1, f1, w1⟩
    have hx := List.getElem?_eq_getElem hk
    have hwl := hs.w _ (List.getElem_mem hk)
    generalize S.L[k] = e at hx hwl
    obtain ⟨kb, rfl, hkb, hkl⟩ := o1.loc (by omega)
    have ht : (S.L.flatMap DE.row)[k * 3 + 2]? = some (.sl 22 1 e.ws.length ((e.ws.map (AV.i .u64)).map TV.lf)) := by
      rw [fmt_get DE.len _ _ _ (by decide), hx]; rfl
    obtain ⟨v, A, D, B, g1, g2, rfl, g4, g5⟩ := c1.split ht
    obtain ⟨w, ws, Lw, rfl, rd, cw, _, hbw⟩ := g2.rd
    obtain ⟨rfl, _⟩ := cw.ofLeaves
    have hlt := c1.lt
    have hbase := hb1 kb (by simp [SA.bk])
    simp (config := { maxSteps := 2000000 }) -implicitDefEqProofs (disch := (first | omega | rfl | assumption | (simp only [rsD]; first | omega | assumption))) only [haymowref10_copied_L1, hkb, g1, Nat.reduceAdd, Nat.reduceMul, Nat.reduceLT, Int.reduceToNat, Int.reduceAdd, Int.reduceSub, Int.reduceMul, rsU, rsC]
    generalize hσ : (σ1.bump 2).put σ1.next (.cells true 22 []) = σ2
    have n2 : σ2.next = σ1.next + 2 := by rw [← hσ]; rfl
    have b2 : σ2.blk σ1.next = some (.cells true 22 []) := by rw [← hσ]; exact s_bs
    have o2 : ∀ b, b ≠ σ1.next → σ2.blk b = σ1.blk b := fun b hb => by rw [← hσ]; exact s_bn hb
    clear hσ
    have rd2 : Rd σ2 1 w e.ws.length (e.ws.map (AV.i .u64)) := rd.of fun b hb => o2 b (by have := hlt b (by simp [hbw b hb]); omega)
    have rs := rd2.rdSl
    have own2 : OwnS σ2 22 1 (.loc (.n σ1.next) 0 1) 0 [] := OwnS.new rfl b2 (by omega)
    simp (config := { maxSteps := 2000000 }) -implicitDefEqProofs (disch := (first | omega | rfl | assumption | (simp only [rsD]; first | omega | assumption))) only [rs, Nat.reduceAdd, Nat.reduceMul, Nat.reduceLT, Int.reduceToNat, Int.reduceAdd, Int.reduceSub, Int.reduceMul, rsU, rsC]
    refine Ok.step (app_ok (nid := σ1.next + 1) own2 (by simp [SA.bk]) (by omega) (show (e.ws.map (AV.i .u64)).length = e.ws.length * 1 by simp)) fun q ⟨a', m1, m2, m3, m4, m5⟩ => ?_
    obtain ⟨q, σ3⟩ := q
    simp only at m1 m2 m3 m4
    subst m1
    rw [Nat.zero_add, List.nil_append] at m2
    have hkb3 : σ3.blk kb = _ := (m4 kb (by omega) (by simp [SA.bk]; omega)).trans ((o2 kb (by omega)).trans hkb)
    have hvl := o1.len
    simp (config := { maxSteps := 2000000 }) -implicitDefEqProofs (disch := (first | omega | rfl | assumption | (simp only [rsD]; first | omega | assumption))) only [hkb3, Nat.zero_add, Nat.reduceAdd, Nat.reduceMul, Nat.reduceLT, Int.reduceToNat, Int.reduceAdd, Int.reduceSub, Int.reduceMul, rsU, rsC]
    have hi : k * 3 + 2 < vs1.length := by omega
    rw [splice_set hi]
    generalize hσ : σ3.put kb _ = σ4
    have n4 : σ4.next = σ3.next := by rw [← hσ]; rfl
    have o4 : ∀ b, b ≠ kb → σ4.blk b = σ3.blk b := fun b hb => by rw [← hσ]; exact s_bn hb
    have o3 : OwnS σ3 130 3 (.loc (.n kb) 0 3) S.L.length vs1 := OwnS.new hvl hkb3 (by omega)
    have own4 := o3.set rfl hσ.symm
    clear hσ
    have hkd := hd1 kb (by simp [SA.bk])
    have old : ∀ b ∈ A ++ (D ++ B), σ4.blk b = σ1.blk b := fun b hb => by
      have h1 := hlt b hb
      have h2 : b ≠ kb := fun e => hkd (e ▸ hb)
      exact (o4 b h2).trans ((m4 b (by omega) (by simp [SA.bk]; omega)).trans (o2 b (by omega)))
    have ow := Ow.leaves (m2.of (σ' := σ4) (by omega) fun b hb => o4 b (by have := m5 b hb; omega)) (flat_ints e.ws)
    have up := g5 σ4 _ _ _ (by omega) (fun b hb => old b (by rcases hb with hb | hb <;> simp [hb])) ow fun b hb => by
      have h1 := m5 b hb
      exact ⟨fun hm => by have := hlt b (by simp [hm]); omega, fun hm => by have := hlt b (by simp [hm]); omega⟩
    rw [set_same ht] at up
    refine Ok_some.2 ⟨σ4, _, _, by simp, own4, up, fun b hb hm => ?_, fun b hb => ?_, by omega, fun b hb => ?_, fun j hj => ?_⟩
    · simp [SA.bk] at hb
      subst hb
      simp only [List.mem_append] at hm
      rcases hm with hm | hm | hm
      · exact hkd (by simp [hm])
      · have := m5 b hm; omega
      · exact hkd (by simp [hm])
    · simp only [List.mem_append] at hb
      rcases hb with hb | hb | hb | hb
      · exact hb1 b (by simp [hb])
      · exact hb1 b (by simp [hb])
      · have := m5 b hb; omega
      · exact hb1 b (by simp [hb])
    · rw [o4 b (by omega), m4 b (by omega) (by simp [SA.bk]; omega), o2 b (by omega)]
      exact f1 b hb
    · by_cases cj : j = k
      · subst cj
        exact ⟨a', e.ws.length, by rw [List.getElem?_set, if_pos rfl, if_pos hi], fun hne => by obtain ⟨b, e, _⟩ := m2.loc hne; exact ⟨b, e⟩⟩
      · obtain ⟨a0, n0, y1, y2⟩ := w1 j (by omega)
        exact ⟨a0, n0, by rw [List.getElem?_set, if_neg (by omega)]; exact y1, y2⟩
  · rintro s ⟨σ1, vs1, L1, rfl, o1, c1, hd1, hb1, n1, f1, w1⟩
    simp (config := { maxSteps := 2000000 }) -implicitDefEqProofs (disch := (first | omega | rfl | assumption | (simp only [rsD]; first | omega | assumption))) only [haymowref10_copied_L1, Nat.reduceAdd, Nat.reduceMul, Nat.reduceLT, Int.reduceToNat, Int.reduceAdd, Int.reduceSub, Int.reduceMul, rsU, rsC]
    exact Ok_some.2 ⟨σ1, vs1, L1, rfl, o1, c1, hd1, hb1, n1, f1, w1⟩
theorem rcopied_ok {σ : AH O} {S : DS} (hs : S.small) {v : AV} (h : S.at_ v) : Ok (haymowref10_copied [v] σ) fun r => ∃ a vs L b, r.1 = .agg [.i .i64 S.words, .sl a S.L.length, .sl b S.free.length, .i .i64 S.room] ∧ OwnS r.2 130 3 a S.L.length vs ∧ OwL r.2 (S.L.flatMap DE.row) vs L ∧ OwnS r.2 3 1 b S.free.length (S.free.map (AV.i .i64)) ∧ (∀ x ∈ SA.bk a, x ∉ L) ∧ (∀ x ∈ SA.bk b, x ∉ SA.bk a ++ L) ∧ (∀ x ∈ SA.bk a ++ L, σ.next ≤ x) ∧ (∀ x ∈ SA.bk b, σ.next ≤ x) ∧ Ext σ r.2 ∧ ∀ j, j < S.L.length → OwnAt vs j := by
  obtain ⟨a, b, rfl, ha, hb⟩ := h
  obtain ⟨sa, va, rfl, ia, ca⟩ := Im.rd ha
  obtain ⟨sb, vb, rfl, ib, cb⟩ := Im.rd hb
  have eb := cb.ofLeaves
  subst eb
  have hsl := hs.l
  have hsf := hs.f
  simp (config := { maxSteps := 2000000 }) -implicitDefEqProofs (disch := (first | omega | rfl | assumption | (simp only [rsD]; first | omega | assumption))) only [haymowref10_copied, haymowref10_copied_c, Nat.reduceAdd, Nat.reduceMul, Nat.reduceLT, Int.reduceToNat, Int.reduceAdd, Int.reduceSub, Int.reduceMul, rsU, rsC]
  generalize hσ : AH.put _ (σ.next + 2) (.cells true 130 []) = σ1
  have n1 : σ1.next = σ.next + 4 := by rw [← hσ]; rfl
  have b0 : ∃ el, σ1.blk σ.next = some (.cells true el [.i .i64 S.words, .sl sa S.L.length, .sl sb S.free.length, .i .i64 S.room]) := by rw [← hσ]; exact ⟨_, (s_bn (by omega)).trans ((s_bn (by omega)).trans s_bs)⟩
  have b1 : ∃ el, σ1.blk (σ.next + 1) = some (.cells true el [.i .i64 0, .sl .nil 0, .sl .nil 0, .i .i64 0]) := by rw [← hσ]; exact ⟨_, (s_bn (by omega)).trans s_bs⟩
  have b2 : σ1.blk (σ.next + 2) = some (.cells true 130 []) := by rw [← hσ]; exact s_bs
  have o1 : ∀ b, b < σ.next → σ1.blk b = σ.blk b := fun b hb => by rw [← hσ]; exact (s_bn (by omega)).trans ((s_bn (by omega)).trans (s_bn (by omega)))
  clear hσ
  obtain ⟨el0, b0⟩ := b0
  obtain ⟨el1, b1⟩ := b1
  have rs := (ia O σ1).rdSl
  have own1 : OwnS σ1 130 3 (.loc (.n (σ.next + 2)) 0 3) 0 [] := OwnS.new rfl b2 (by omega)
  simp (config := { maxSteps := 2000000 }) -implicitDefEqProofs (disch := (first | omega | rfl | assumption | (simp only [rsD]; first | omega | assumption))) only [b0, rs, Nat.reduceAdd, Nat.reduceMul, Nat.reduceLT, Int.reduceToNat, Int.reduceAdd, Int.reduceSub, Int.reduceMul, rsU, rsC]
  refine Ok.step (app_ok (nid := σ.next + 2 + 1) own1 (by simp [SA.bk]) (by omega) ia.len) fun q ⟨a', m1, m2, m3, m4, m5⟩ => ?_
  obtain ⟨q, σ2⟩ := q
  simp only at m1 m2 m3 m4
  subst m1
  rw [Nat.zero_add, List.nil_append] at m2
  have c0 : σ2.blk σ.next = _ := (m4 _ (by omega) (by simp [SA.bk])).trans b0
  have c1 : σ2.blk (σ.next + 1) = _ := (m4 _ (by omega) (by simp [SA.bk])).trans b1
  have oo2 : ∀ b, b < σ.next → σ2.blk b = σ.blk b := fun b hb => (m4 b (by omega) (by simp [SA.bk]; omega)).trans (o1 b hb)
  simp (config := { maxSteps := 2000000 }) -implicitDefEqProofs (disch := (first | omega | rfl | assumption | (simp only [rsD]; first | omega | assumption))) only [Nat.zero_add, Nat.reduceAdd, Nat.reduceMul, Nat.reduceLT, Int.reduceToNat, Int.reduceAdd, Int.reduceSub, Int.reduceMul, rsU, rsC]
  have lp := copied_loop hs (base := σ.next + 2) m2 (.im ca) (by simp) (fun b hb => by simp at hb; have := m5 b hb; omega) (by omega)
  refine Ok.step lp fun q ⟨σ3, vs, L, p1, p2, p3, p4, p5, p6, p7, p8⟩ => ?_
  subst p1
  have d0 : σ3.blk σ.next = _ := (p7 _ (by omega)).trans c0
  have d1 : σ3.blk (σ.next + 1) = _ := (p7 _ (by omega)).trans c1
  simp (config := { maxSteps := 2000000 }) -implicitDefEqProofs (disch := (first | omega | rfl | assumption | (simp only [rsD]; first | omega | assumption))) only [d0, Nat.reduceAdd, Nat.reduceMul, Nat.reduceLT, Int.reduceToNat, Int.reduceAdd, Int.reduceSub, Int.reduceMul, rsU, rsC]
  generalize hσ : AH.put _ σ3.next (.cells true 3 []) = σ4
  have n4 : σ4.next = σ3.next + 2 := by rw [← hσ]; rfl
  have e0 : σ4.blk σ.next = some (.cells true el0 [.i .i64 S.words, .sl a' S.L.length, .sl sb S.free.length, .i .i64 S.room]) := by rw [← hσ]; exact (s_bn (by omega)).trans s_bs
  have e2 : σ4.blk σ3.next = some (.cells true 3 []) := by rw [← hσ]; exact s_bs
  have o4 : ∀ b, b ≠ σ.next → b ≠ σ3.next → σ4.blk b = σ3.blk b := fun b hb hc => by rw [← hσ]; exact (s_bn hc).trans (s_bn hb)
  clear hσ
  have rs2 := (ib O σ4).rdSl
  have own4 : OwnS σ4 3 1 (.loc (.n σ3.next) 0 1) 0 [] := OwnS.new rfl e2 (by omega)
  simp (config := { maxSteps := 2000000 }) -implicitDefEqProofs (disch := (first | omega | rfl | assumption | (simp only [rsD]; first | omega | assumption))) only [rs2, Nat.reduceAdd, Nat.reduceMul, Nat.reduceLT, Int.reduceToNat, Int.reduceAdd, Int.reduceSub, Int.reduceMul, rsU, rsC]
  refine Ok.step (app_ok (nid := σ3.next + 1) own4 (by simp [SA.bk]) (by omega) ib.len) fun q ⟨b', q1, q2, q3, q4, q5⟩ => ?_
  obtain ⟨q, σ5⟩ := q
  simp only at q1 q2 q3 q4
  subst q1
  rw [Nat.zero_add, List.nil_append] at q2
  have f0 : σ5.blk σ.next = _ := (q4 _ (by omega) (by simp [SA.bk]; omega)).trans e0
  have f1 : σ5.blk (σ.next + 1) = _ := (q4 _ (by omega) (by simp [SA.bk]; omega)).trans ((o4 _ (by omega) (by omega)).trans d1)
  simp (config := { maxSteps := 2000000 }) -implicitDefEqProofs (disch := (first | omega | rfl | assumption | (simp only [rsD]; first | omega | assumption))) only [f0, f1, Nat.zero_add, Nat.reduceAdd, Nat.reduceMul, Nat.reduceLT, Int.reduceToNat, Int.reduceAdd, Int.reduceSub, Int.reduceMul, rsU, rsC]
  generalize hσ : AH.put _ (σ.next + 1) _ = σ6
  have n6 : σ6.next = σ5.next := by rw [← hσ]; rfl
  have o6 : ∀ b, b ≠ σ.next → b ≠ σ.next + 1 → σ6.blk b = σ5.blk b := fun b hb hc => by rw [← hσ]; exact (s_bn hc).trans (s_bn hb)
  clear hσ
  have keep : ∀ b, σ.next + 2 ≤ b → b < σ3.next → σ6.blk b = σ3.blk b := fun b h1 h2 => (o6 b (by omega) (by omega)).trans ((q4 b (by omega) (by simp [SA.bk]; omega)).trans (o4 b (by omega) (by omega)))
  have h36 : σ3.next ≤ σ6.next := by omega
  have h56 : σ5.next ≤ σ6.next := by omega
  have h06 : σ.next ≤ σ6.next := by omega
  refine Ok_some.2 ⟨a', vs, L, b', rfl, p2.of h36 fun b hb => keep b (p5 b (by simp [hb])) (p2.lt b hb), p3.of h36 fun b hb => keep b (p5 b (by simp [hb])) (p3.lt b hb), q2.of h56 fun b hb => o6 b (by have := q5 b hb; omega) (by have := q5 b hb; omega), p4, fun b hb hm => ?_, fun b hb => by have := p5 b hb; omega, fun b hb => by have := q5 b hb; omega, ⟨h06, fun b hb => ?_⟩, p8⟩
  · have h1 := q5 b hb
    rcases List.mem_append.1 hm with hm | hm
    · have := p2.lt b hm; omega
    · have := p3.lt b hm; omega
  · show σ6.blk b = _
    rw [o6 b (by omega) (by omega), q4 b (by omega) (by simp [SA.bk]; omega), o4 b (by omega) (by omega), p7 b (by omega), oo2 b hb]
/-- the entry of a number -/
def DS.ent (S : DS) (id : Int) : Option DE := if 1 ≤ id then S.L[(id - 1).toNat]? else none
def DS.is (S : DS) (id : Int) : Bool := match S.ent id with | some e => e.tk | none => false
theorem DS.ent_some {S : DS} {id : Int} {e : DE} (h : S.ent id = some e) : ∃ i : Nat, id = (i : Int) + 1 ∧ S.L[i]? = some e ∧ i < S.L.length := by
  unfold DS.ent at h
  split at h
  · exact ⟨(id - 1).toNat, by omega, h, (List.getElem?_eq_some_iff.1 h).1⟩
  · cases h
theorem DS.ent_none {S : DS} {id : Int} (h : S.ent id = none) : id < 1 ∨ (S.L.length : Int) < id := by
  unfold DS.ent at h
  split at h
  · have := List.getElem?_eq_none_iff.1 h; omega
  · omega
theorem DS.cells_ {S : DS} {va : List AV} (c : ImL (S.L.flatMap DE.row) va) {i : Nat} {e : DE} (he : S.L[i]? = some e) : va[i * 3]? = some (.b e.tk) ∧ va[i * 3 + 1]? = some (.i .i64 e.gen) ∧ ∃ w, va[i * 3 + 2]? = some (.sl w e.ws.length) ∧ Imm 1 w e.ws.length (e.ws.map (AV.i .u64)) := by
  have g0 : (S.L.flatMap DE.row)[i * 3 + 0]? = some (.lf (.b e.tk)) := by rw [fmt_get DE.len _ _ _ (by decide), he]; rfl
  have g1 : (S.L.flatMap DE.row)[i * 3 + 1]? = some (.lf (.i .i64 e.gen)) := by rw [fmt_get DE.len _ _ _ (by decide), he]; rfl
  have g2 : (S.L.flatMap DE.row)[i * 3 + 2]? = some (.sl 22 1 e.ws.length ((e.ws.map (AV.i .u64)).map TV.lf)) := by rw [fmt_get DE.len _ _ _ (by decide), he]; rfl
  obtain ⟨v0, h0, k0⟩ := c.get g0
  obtain ⟨v1, h1, k1⟩ := c.get g1
  obtain ⟨v2, h2, k2⟩ := c.get g2
  obtain ⟨w, ws, rfl, m1, m2⟩ := k2.rd
  rw [m2.ofLeaves] at m1
  exact ⟨by rw [k0.leaf] at h0; exact h0, by rw [k1.leaf] at h1; exact h1, w, h2, m1⟩
theorem ris_ok {σ : AH O} {S : DS} (hs : S.small) {v : AV} (h : S.at_ v) {id : Int} (hr : -9223372036854775808 ≤ id ∧ id ≤ 9223372036854775807) : Ok (haymowref10_Is [v, .i .i64 id] σ) fun r => r.1 = .b (S.is id) ∧ Ext σ r.2 := by
  obtain ⟨a, b, rfl, ha, hb⟩ := h
  obtain ⟨sa, va, rfl, ia, ca⟩ := Im.rd ha
  obtain ⟨sb, vb, rfl, ib, cb⟩ := Im.rd hb
  have hsl := hs.l
  have ext : ∀ x : Blk O, Ext σ ((σ.bump 1).put σ.next x) := fun x => ((Ext.refl σ).bump 1).put (Nat.le_refl _) x
  unfold DS.is
  cases he : S.ent id with
  | none =>
    have hn := DS.ent_none he
    by_cases c : id < 1
    · have d0 := decide_eq_false (show ¬ id ≥ 1 by omega)
      simp (config := { maxSteps := 2000000 }) -implicitDefEqProofs (disch := (first | omega | rfl | assumption | (simp only [rsD]; first | omega | assumption))) only [haymowref10_Is, haymowref10_Is_c, d0, Nat.reduceAdd, Nat.reduceMul, Nat.reduceLT, Int.reduceToNat, Int.reduceAdd, Int.reduceSub, Int.reduceMul, rsU, rsC]
      exact Ok_some.2 ⟨rfl, ext _⟩
    · have d0 := decide_eq_true (show id ≥ 1 by omega)
      have d1 := decide_eq_false (show ¬ id ≤ (S.L.length : Int) by omega)
      simp (config := { maxSteps := 2000000 }) -implicitDefEqProofs (disch := (first | omega | rfl | assumption | (simp only [rsD]; first | omega | assumption))) only [haymowref10_Is, haymowref10_Is_c, d0, d1, Nat.reduceAdd, Nat.reduceMul, Nat.reduceLT, Int.reduceToNat, Int.reduceAdd, Int.reduceSub, Int.reduceMul, rsU, rsC]
      exact Ok_some.2 ⟨rfl, ext _⟩
  | some e =>
    obtain ⟨i, rfl, hi, hl⟩ := DS.ent_some he
    obtain ⟨c0, _, _⟩ := DS.cells_ ca hi
    have d0 := decide_eq_true (show (i : Int) + 1 ≥ 1 by omega)
    have d1 := decide_eq_true (show (i : Int) + 1 ≤ (S.L.length : Int) by omega)
    have v0 : (i : Int) + 1 - 1 = i := by omega
    obtain ⟨bb, oo, rfl, _⟩ := (ia O σ).ref hl
    have hld : ∀ σ' : AH O, σ'.ld bb (oo + i * 3) = some (.b e.tk) := fun σ' => by
      obtain ⟨b2, o2, e2, hld⟩ := (ia O σ').ref hl
      cases e2
      have := hld 0 (by decide)
      rw [Nat.add_zero, Nat.add_zero, c0] at this; exact this
    simp (config := { maxSteps := 2000000 }) -implicitDefEqProofs (disch := (first | omega | rfl | assumption | (simp only [rsD]; first | omega | assumption))) only [haymowref10_Is, haymowref10_Is_c, d0, d1, v0, hld, Nat.reduceAdd, Nat.reduceMul, Nat.reduceLT, Int.reduceToNat, Int.reduceAdd, Int.reduceSub, Int.reduceMul, rsU, rsC]
    exact Ok_some.2 ⟨rfl, ext _⟩
def DS.wrong (S : DS) (id word : Int) : Int := if S.is id = true then (if word < 0 ∨ word ≥ S.words then 32 else 0) else 4
theorem rwrong_ok {σ : AH O} {S : DS} (hs : S.small) {v : AV} (h : S.at_ v) {id word : Int} (hr : -9223372036854775808 ≤ id ∧ id ≤ 9223372036854775807) : Ok (haymowref10_Wrong [v, .i .i64 id, .i .i64 word] σ) fun r => r.1 = .i .i64 (S.wrong id word) ∧ Ext σ r.2 := by
  have hv := h
  obtain ⟨a, b, rfl, ha, hb⟩ := h
  obtain ⟨sa, va, rfl, ia, ca⟩ := Im.rd ha
  obtain ⟨sb, vb, rfl, ib, cb⟩ := Im.rd hb
  simp (config := { maxSteps := 2000000 }) -implicitDefEqProofs (disch := (first | omega | rfl | assumption | (simp only [rsD]; first | omega | assumption))) only [haymowref10_Wrong, haymowref10_Wrong_c, Nat.reduceAdd, Nat.reduceMul, Nat.reduceLT, Int.reduceToNat, Int.reduceAdd, Int.reduceSub, Int.reduceMul, rsU, rsC]
  generalize hσ : (σ.bump 1).put σ.next _ = σ1
  have b1 : ∃ el, σ1.blk σ.next = some (.cells true el [.i .i64 S.words, .sl sa S.L.length, .sl sb S.free.length, .i .i64 S.room]) := by rw [← hσ]; exact ⟨_, s_bs⟩
  have E1 : Ext σ σ1 := by rw [← hσ]; exact ((Ext.refl σ).bump 1).put (Nat.le_refl _) _
  have n1 : σ1.next = σ.next + 1 := by rw [← hσ]; rfl
  clear hσ
  obtain ⟨el, b1⟩ := b1
  refine Ok.step (ris_ok hs hv hr) fun r ⟨g1, g2⟩ => ?_
  obtain ⟨q, σ2⟩ := r
  simp only at g1 g2
  subst g1
  have b2 : σ2.blk σ.next = _ := (g2.blk _ (by omega)).trans b1
  unfold DS.wrong
  cases S.is id with
  | false =>
    simp (config := { maxSteps := 2000000 }) -implicitDefEqProofs (disch := (first | omega | rfl | assumption | (simp only [rsD]; first | omega | assumption))) only [Nat.reduceAdd, Nat.reduceMul, Nat.reduceLT, Int.reduceToNat, Int.reduceAdd, Int.reduceSub, Int.reduceMul, rsU, rsC]
    exact Ok_some.2 ⟨rfl, E1.trans g2⟩
  | true =>
    by_cases c1 : word < 0
    · have d0 := decide_eq_true c1
      simp (config := { maxSteps := 2000000 }) -implicitDefEqProofs (disch := (first | omega | rfl | assumption | (simp only [rsD]; first | omega | assumption))) only [d0, Nat.reduceAdd, Nat.reduceMul, Nat.reduceLT, Int.reduceToNat, Int.reduceAdd, Int.reduceSub, Int.reduceMul, rsU, rsC]
      exact Ok_some.2 ⟨by rw [if_pos trivial, if_pos (.inl c1)], E1.trans g2⟩
    · have d0 := decide_eq_false c1
      by_cases c2 : word ≥ S.words
      · have d1 := decide_eq_true c2
        simp (config := { maxSteps := 2000000 }) -implicitDefEqProofs (disch := (first | omega | rfl | assumption | (simp only [rsD]; first | omega | assumption))) only [d0, b2, d1, Nat.reduceAdd, Nat.reduceMul, Nat.reduceLT, Int.reduceToNat, Int.reduceAdd, Int.reduceSub, Int.reduceMul, rsU, rsC]
        exact Ok_some.2 ⟨by rw [if_pos trivial, if_pos (.inr c2)], E1.trans g2⟩
      · have d1 := decide_eq_false c2
        simp (config := { maxSteps := 2000000 }) -implicitDefEqProofs (disch := (first | omega | rfl | assumption | (simp only [rsD]; first | omega | assumption))) only [d0, b2, d1, Nat.reduceAdd, Nat.reduceMul, Nat.reduceLT, Int.reduceToNat, Int.reduceAdd, Int.reduceSub, Int.reduceMul, rsU, rsC]
        exact Ok_some.2 ⟨by rw [if_pos trivial, if_neg (fun h => h.elim c1 c2)], E1.trans g2⟩
end Go.Abs.Try
