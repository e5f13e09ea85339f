/-
  Layer 15: all large objects are told. No conditions.
-/
import Derived.Test.YtgmffmgbaelohaaM15e
import Derived.Test.YtgmffmgbaelohaaL15a
set_option linter.unusedVariables false
set_option linter.unusedSimpArgs false
set_option linter.constructorNameAsVariable false
set_option linter.unusedSimpArgs false
set_option linter.unusedVariables false
set_option linter.unusedSectionVars false
set_option maxHeartbeats 2000000
namespace Go.Abs.Try
open Go Go.Abs
variable {O : Type}

def toldEnv (x0 x1 ob : Nat) : List (Nat × AV) := [(2, .p (some (.n x0, 0))), (3, .p (some (.n x1, 0))), (5, .p (some (.n ob, 0)))]
/-- what was told stands in the slice a, which stands in the box ob; the loop's record is block b1 -/
structure Tl (σ : AH O) (lb pb mb : Nat) (M : MemS) (S : PoolS) (w : List Int) (L : LarS) (X : List Nat) (Y : List Int) (x0 x1 ob b1 : Nat) (a : SA) (l : List Nat) : Prop where
  p : LarAt σ lb pb mb M S w L (ob :: b1 :: (SA.bk a ++ X)) Y
  o : σ.blk ob = some (.cells true 29 [.sl a l.length])
  own : OwnS σ 3 1 a l.length ((nums l).map (AV.i .i64))
  l1 : σ.blk b1 = some (.loop 35000 (toldEnv x0 x1 ob) .ready)
  n1 : ob ≠ b1
  n2 : ob ∉ SA.bk a ∧ b1 ∉ SA.bk a
  n3 : ob ∉ X ∧ b1 ∉ X
  n4 : ∀ b ∈ SA.bk a, b ∉ X
theorem told_round {σ : AH O} {lb pb mb : Nat} {M : MemS} {S : PoolS} {w : List Int} {L : LarS} {X : List Nat} {Y : List Int} {x0 x1 ob b1 : Nat} {a : SA} {l : List Nat} (h : Tl σ lb pb mb M S w L X Y x0 x1 ob b1 a l) (hl : l.length ≤ 200) {i : Nat} :
    Ok (law15_told_R0 [.p (some (.n b1, 0)), .i .i64 ((i : Int) + 1)] σ) fun r => r.1 = .b true ∧ ∃ a', Tl r.2 lb pb mb M S w L X Y x0 x1 ob b1 a' (l ++ [i]) ∧ Keep X σ r.2 := by
  have hbl := h.l1
  have hbo := h.o
  simp only [toldEnv] at hbl
  have hgl := h.n1
  have hgl2 : b1 ≠ ob := fun e => hgl e.symm
  have q32 : Nat.beq 3 2 = false := rfl
  have q52 : Nat.beq 5 2 = false := rfl
  have q53 : Nat.beq 5 3 = false := rfl
  have hltl : b1 < σ.next := h.p.lX _ (by simp)
  have hlto : ob < σ.next := h.p.lX _ (by simp)
  simp (config := { maxSteps := 2000000 }) -implicitDefEqProofs (disch := (first | omega | rfl | assumption | (simp only [rsD]; first | omega | assumption))) only [law15_told_R0, law15_told_R0_c, roundW, busyL, hbl, envOf, hbo, q32, q52, q53, Nat.reduceAdd, Nat.reduceMul, Nat.reduceLT, Int.reduceToNat, Int.reduceAdd, Int.reduceSub, Int.reduceMul, rsU, rsC]
  generalize hσ : ((σ.put b1 _).bump 2).put σ.next (.cells true _ _) = σ3
  have n3 : σ3.next = σ.next + 2 := by rw [← hσ]; rfl
  have l3 : σ3.blk b1 = some (.loop 35000 (toldEnv x0 x1 ob) .busy) := by rw [← hσ, s_bn (by omega)]; exact s_bs
  have o3 : ∀ b, b ≠ b1 → b ≠ σ.next → σ3.blk b = σ.blk b := fun b hb hb2 => by rw [← hσ, s_bn hb2]; exact s_bn hb
  clear hσ
  have og3 : OwnS σ3 3 1 a l.length ((nums l).map (AV.i .i64)) := h.own.of (by omega) fun b hb => o3 b (fun e => h.n2.2 (e ▸ hb)) (by have := h.own.lt b hb; omega)
  refine Ok.step (app_ok (nid := σ.next + 1) og3 (fun hm => by have := h.own.lt _ hm; omega) (by omega) (show ([.i .i64 ((i : Int) + 1)] : List AV).length = 1 * 1 from rfl)) fun q ⟨a2, m1, m2, m3, m4, m5⟩ => ?_
  obtain ⟨q, σ4⟩ := q
  simp only at m1 m2 m3 m4
  subst m1
  have g4 : σ4.blk ob = some (.cells true 29 [.sl a l.length]) := by rw [m4 ob (by omega) h.n2.1, o3 ob hgl (by omega)]; exact hbo
  have l4 : σ4.blk b1 = _ := (m4 b1 (by omega) h.n2.2).trans l3
  simp (config := { maxSteps := 2000000 }) -implicitDefEqProofs (disch := (first | omega | rfl | assumption | (simp only [rsD]; first | omega | assumption))) only [g4, l4, markL, hgl2, Nat.reduceAdd, Nat.reduceMul, Nat.reduceLT, Int.reduceToNat, Int.reduceAdd, Int.reduceSub, Int.reduceMul, rsU, rsC]
  generalize hσ : (σ4.put ob _).put b1 _ = σ5
  have n5 : σ5.next = σ4.next := by rw [← hσ]; rfl
  have l5 : σ5.blk b1 = some (.loop 35000 (toldEnv x0 x1 ob) .ready) := by rw [← hσ]; exact s_bs
  have g5 : σ5.blk ob = some (.cells true 29 [.sl a2 (l.length + 1)]) := by rw [← hσ, s_bn hgl]; exact s_bs
  have o5 : ∀ b, b ≠ b1 → b ≠ ob → σ5.blk b = σ4.blk b := fun b hb hb2 => by rw [← hσ, s_bn hb]; exact s_bn hb2
  clear hσ
  have oa : ∀ b, b < σ.next → b ≠ b1 → b ≠ ob → b ∉ SA.bk a → σ5.blk b = σ.blk b := fun b hb h1 h2 h3 => by rw [o5 b h1 h2, m4 b (by omega) h3, o3 b h1 (by omega)]
  have chg : Chg (b1 :: ob :: SA.bk a) σ σ5 := ⟨by omega, fun b hb hm => by
    simp only [List.mem_cons, not_or] at hm
    exact oa b hb hm.1 hm.2.1 hm.2.2⟩
  have hX : ∀ b ∈ X, b < σ.next := fun b hb => h.p.lX _ (by simp [hb])
  have p5 := h.p.turn (Z := ob :: b1 :: (SA.bk a2 ++ X)) chg (fun b hb => .inl (by
    simp only [List.mem_cons] at hb
    rcases hb with rfl | rfl | hb
    · simp
    · simp
    · simp [hb])) fun b hb => by
    simp only [List.mem_cons, List.mem_append] at hb
    rcases hb with rfl | rfl | hb | hb
    · exact .inl (by simp)
    · exact .inl (by simp)
    · have := m5 b hb; exact .inr (by omega)
    · exact .inl (by simp [hb])
  refine Ok_some.2 ⟨rfl, a2, ⟨p5, ?_, ?_, l5, hgl, ⟨fun hm => ?_, fun hm => ?_⟩, h.n3, fun b hb hm => ?_⟩, ⟨(by show σ.next ≤ σ5.next; omega), fun b hb => oa b (hX b hb) (fun e => h.n3.2 (e ▸ hb)) (fun e => h.n3.1 (e ▸ hb)) (fun hm => h.n4 b hm hb)⟩⟩
  · simp only [List.length_append, List.length_cons, List.length_nil]; exact g5
  · simp only [List.length_append, List.length_cons, List.length_nil, nums_snoc]
    exact m2.of (show σ4.next ≤ σ5.next by omega) fun b hb => by have := m5 b hb; exact o5 b (by omega) (by omega)
  · have := m5 _ hm; omega
  · have := m5 _ hm; omega
  · have := m5 _ hb; have := hX b hm; omega
theorem Tl.turn {σ σ' : AH O} {lb pb mb : Nat} {M M' : MemS} {S : PoolS} {w : List Int} {L : LarS} {X Z : List Nat} {Y : List Int} {x0 x1 ob b1 : Nat} {a : SA} {l : List Nat} (h : Tl σ lb pb mb M S w L X Y x0 x1 ob b1 a l)
    (hp : LarAt σ' lb pb mb M' S w L (ob :: b1 :: (SA.bk a ++ Z)) Y) (hk : Keep (ob :: b1 :: SA.bk a) σ σ') (hz : ∀ b ∈ Z, b ∈ X ∨ σ.next ≤ b) : Tl σ' lb pb mb M' S w L Z Y x0 x1 ob b1 a l := by
  have key : ∀ b, b < σ.next → b ∉ X → b ∉ Z := fun b hb hx hm => by
    rcases hz b hm with g | g
    · exact hx g
    · omega
  exact ⟨hp, (hk.blk _ (by simp)).trans h.o, h.own.of hk.next fun b hb => hk.blk b (by simp [hb]), (hk.blk _ (by simp)).trans h.l1, h.n1, h.n2, ⟨key _ (h.p.lX _ (by simp)) h.n3.1, key _ (h.p.lX _ (by simp)) h.n3.2⟩, fun b hb => key b (h.own.lt b hb) (h.n4 b hb)⟩
/-- blocks of Z turn, or new ones come -/
theorem Tl.chg {σ σ' : AH O} {lb pb mb : Nat} {M : MemS} {S : PoolS} {w : List Int} {L : LarS} {X Z K : List Nat} {Y : List Int} {x0 x1 ob b1 : Nat} {a : SA} {l : List Nat} (h : Tl σ lb pb mb M S w L X Y x0 x1 ob b1 a l)
    (hc : Chg K σ σ') (hK : ∀ b ∈ K, b ∈ X ∨ σ.next ≤ b) (hz : ∀ b ∈ Z, b ∈ X ∨ (σ.next ≤ b ∧ b < σ'.next)) : Tl σ' lb pb mb M S w L Z Y x0 x1 ob b1 a l := by
  have hK2 : ∀ b, b < σ.next → b ∉ X → b ∉ K := fun b hb hx hm => by
    rcases hK b hm with g | g
    · exact hx g
    · omega
  refine h.turn (h.p.turn hc (fun b hb => ?_) fun b hb => ?_) ⟨hc.next, fun b hb => ?_⟩ fun b hb => ?_
  · rcases hK b hb with g | g
    · exact .inl (by simp [g])
    · exact .inr g
  · simp only [List.mem_cons, List.mem_append] at hb
    rcases hb with rfl | rfl | hb | hb
    · exact .inl (by simp)
    · exact .inl (by simp)
    · exact .inl (by simp [hb])
    · rcases hz b hb with g | g
      · exact .inl (by simp [g])
      · exact .inr g
  · simp only [List.mem_cons] at hb
    rcases hb with rfl | rfl | hb
    · exact hc.blk _ (h.p.lX _ (by simp)) (hK2 _ (h.p.lX _ (by simp)) h.n3.1)
    · exact hc.blk _ (h.p.lX _ (by simp)) (hK2 _ (h.p.lX _ (by simp)) h.n3.2)
    · exact hc.blk _ (h.own.lt b hb) (hK2 _ (h.own.lt b hb) (h.n4 b hb))
  · rcases hz b hb with g | g
    · exact .inl g
    · exact .inr g.1
theorem all_round {σ : AH O} {lb pb mb : Nat} {M : MemS} {S : PoolS} {w : List Int} {L : LarS} {X : List Nat} {Y : List Int} {x0 x1 ob b1 : Nat} {a : SA} {l : List Nat} (h : Tl σ lb pb mb M S w L X Y x0 x1 ob b1 a l) (hl : l.length ≤ 200) {i fb b2 : Nat} (hfX : fb ∈ X) (h2X : b2 ∈ X) (hne : fb ≠ b2)
    (hfb : σ.blk fb = some (.cells true 217 [.fn (some (.yield b1, [], []))])) (hb2 : σ.blk b2 = some (.loop 144000 [(2, .p (some (.n fb, 0)))] .ready)) :
    Ok (large_Large__All_1_R0 law15_told_R0 [.p (some (.n b2, 0)), .i .i64 ((i : Int) + 1)] σ) fun r => r.1 = .b true ∧ ∃ a', Tl r.2 lb pb mb M S w L X Y x0 x1 ob b1 a' (l ++ [i]) ∧ Keep X σ r.2 := by
  have hlt : b2 < σ.next := h.p.lX _ (by simp [h2X])
  have hq : Nat.beq 144000 144000 = true := rfl
  simp (config := { maxSteps := 2000000 }) -implicitDefEqProofs (disch := (first | omega | rfl | assumption | (simp only [rsD]; first | omega | assumption))) only [large_Large__All_1_R0, large_Large__All_1_R0_c, roundW, busyL, hb2, envOf, hfb, s_callY, getG, Nat.reduceAdd, Nat.reduceMul, Nat.reduceLT, Int.reduceToNat, Int.reduceAdd, Int.reduceSub, Int.reduceMul, rsU, rsC]
  generalize hσ : σ.put b2 _ = σ1
  have n1 : σ1.next = σ.next := by rw [← hσ]; rfl
  have bb1 : σ1.blk b2 = some (.loop 144000 [(2, .p (some (.n fb, 0)))] .busy) := by rw [← hσ]; exact s_bs
  have o1 : ∀ b, b ≠ b2 → σ1.blk b = σ.blk b := fun b hb => by rw [← hσ]; exact s_bn hb
  clear hσ
  have h1 := h.chg (Z := X) (K := [b2]) (σ' := σ1) ⟨by omega, fun b hb hm => o1 b (by simpa using hm)⟩ (fun b hb => .inl (by simp at hb; rw [hb]; exact h2X)) fun b hb => .inl hb
  refine Ok.step (told_round h1 hl) fun r ⟨g1, a', g2, g3⟩ => ?_
  obtain ⟨q, σ2⟩ := r
  simp only at g1 g2 g3
  subst g1
  have bb2 : σ2.blk b2 = _ := (g3.blk _ h2X).trans bb1
  simp (config := { maxSteps := 2000000 }) -implicitDefEqProofs (disch := (first | omega | rfl | assumption | (simp only [rsD]; first | omega | assumption))) only [bb2, markL, Nat.reduceAdd, Nat.reduceMul, Nat.reduceLT, Int.reduceToNat, Int.reduceAdd, Int.reduceSub, Int.reduceMul, rsU, rsC]
  refine Ok_some.2 ⟨rfl, a', g2.chg (Z := X) (K := [b2]) ⟨by simp, fun b hb hm => by simp at hm; simp -implicitDefEqProofs (disch := omega) only [s_bn, s_bs, s_kn, bump_blk]⟩ (fun b hb => .inl (by simp at hb; rw [hb]; exact h2X)) (fun b hb => .inl hb), ⟨by have := g3.next; simp only [put_next]; omega, fun b hb => ?_⟩⟩
  by_cases hbb : b = b2
  · subst hbb; rw [s_bs, hb2]
  · rw [s_bn hbb, g3.blk b hb, o1 b hbb]
/-- one chain is told -/
theorem chain_told {σ : AH O} {lb pb mb : Nat} {M : MemS} {S : PoolS} {w : List Int} {L : LarS} {X : List Nat} {Y : List Int} {x0 x1 ob b1 : Nat} {a : SA} {l : List Nat} (h : Tl σ lb pb mb M S w L X Y x0 x1 ob b1 a l) (hf : M.far 1000) {C : List Nat} (hL : Linked S.E 2 3 C) (hl : l.length + C.length ≤ 201) {fb b2 tb cb : Nat}
    (hfX : fb ∈ X) (h2X : b2 ∈ X) (htX : tb ∈ X) (hne : fb ≠ b2) (hfb : σ.blk fb = some (.cells true 217 [.fn (some (.yield b1, [], []))])) (hb2 : σ.blk b2 = some (.loop 144000 [(2, .p (some (.n fb, 0)))] .ready))
    {el el' : TypeId} (htb : σ.blk tb = some (.cells true el (tblc S mb 2 3))) (hcb : σ.blk cb = some (.cells true el' (chnc C))) :
    Ok (chain_Table__All_1 (large_Large__All_1_R0 law15_told_R0) [.fn (some (.yield b2, [], [])), .p (some (.n cb, 0)), .p (some (.n tb, 0))] σ) fun r => r.1 = .tup [] ∧ ∃ M' a', Tl r.2 lb pb mb M' S w L X Y x0 x1 ob b1 a' (l ++ C) ∧ Beh Y M M' C.length 0 0 ∧ Keep X σ r.2 := by
  have five := h.p.five
  have := tallr_ok (ky := large_Large__All_1_R0 law15_told_R0) (b := b2) (pb := pb) (mb := mb) (nx := 2) (pv := 3) (S := S) (w := w) (C := C) (cb := cb) (tb := tb) (fun k σ' M' => ∃ a', Tl σ' lb pb mb M' S w L X Y x0 x1 ob b1 a' (l ++ C.take k) ∧ Beh Y M M' k 0 0 ∧ Keep X σ σ') (by omega) (by omega) (by decide) hL (by omega)
    (fun k i σ1 M1 hk ⟨a1, t1, c1, k1⟩ => by
      have hkC := (List.getElem?_eq_some_iff.1 hk).1
      refine (all_round t1 (by simp only [List.length_append, List.length_take]; omega) hfX h2X hne ((k1.blk _ hfX).trans hfb) ((k1.blk _ h2X).trans hb2)).mono fun r ⟨g1, a2, t2, k2⟩ => ⟨g1, M1, _, t2.p.p, (c1.far (d := 0) (hf.less (by omega))).calm (by decide), ⟨_, ((k1.trans k2).blk _ htX).trans htb⟩, fun σ' M'' p q kp => ⟨a2, ?_, ?_, (k1.trans k2).trans (kp.mono fun b hb => by simp [hb])⟩⟩
      · have et : C.take (k + 1) = C.take k ++ [i] := by
          rw [List.take_succ_eq_append_getElem hkC]
          rw [List.getElem?_eq_getElem hkC] at hk
          cases hk; rfl
        rw [et, ← List.append_assoc]
        exact t2.turn (t2.p.read p kp q) (kp.mono fun b hb => by
          simp only [List.mem_cons] at hb
          rcases hb with rfl | rfl | hb
          · simp
          · simp
          · simp [hb]) fun b hb => .inl hb
      · exact (c1.trans (t2.p.beh q p.mi.ok (by decide) (by decide) rfl)).as (by push_cast; omega) rfl rfl)
    h.p.p hcb ⟨a, by simpa using h, (Beh.refl Y M).as (by omega) rfl rfl, Keep.refl _ _⟩ (x := []) (y := [])
  refine this.mono fun r ⟨g1, M', a', t, c, k⟩ => ⟨g1, M', a', by rw [List.take_length] at t; exact t, c, k⟩
end Go.Abs.Try
