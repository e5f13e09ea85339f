/-
  A node's line is read, the document's way: haymowref46.readNode. No conditions.
-/
import Derived.Test.YtgddikandbkmpaaDoorU6
import Derived.Test.YtgddikandbkmpaaDoorU1
set_option linter.unusedVariables false
set_option linter.unusedSimpArgs false
set_option linter.constructorNameAsVariable false
set_option linter.unusedSimpArgs false
set_option linter.unusedVariables false
set_option maxHeartbeats 2000000
namespace Go.Abs.Tryd
open Go Go.Abs
variable {O : Type}
theorem nodeFz {σ : AH O} {p r s g : Int} {lg : Bool} {c a : SA} {P R : List Int} (hc : Ints .i64 c P) (own : OwnS σ 82 1 a R.length (R.map (AV.i .u64))) :
  ∃ d, FZ 8 σ.blk (SA.bk a) (.tup [.agg [.i .i64 p, .i .i64 r, .i .i64 s, .i .i64 g, .b lg, .sl c P.length, .sl a R.length], .b true]) (.tup [.agg [.i .i64 p, .i .i64 r, .i .i64 s, .i .i64 g, .b lg, .sl c P.length, .sl d R.length], .b true]) ∧ Ints .u64 d R := by
 obtain ⟨d, f1, f2⟩ := FZ.sl (d := 4) (L := []) own (fun _ _ => rfl) (FZL.flat (by simpa using flat_ints (k := .u64) R)) rfl (by simp)
 refine ⟨d, ?_, Ints.mk f2⟩
 rw [List.append_nil] at f1
 have h6 : FZL 6 σ.blk [] [.i .i64 p, .i .i64 r, .i .i64 s, .i .i64 g, .b lg, .sl c P.length] [.i .i64 p, .i .i64 r, .i .i64 s, .i .i64 g, .b lg, .sl c P.length] := FZL.flat (by have := hc.imm.flat; simp only [List.all_cons, List.all_nil, this]; rfl)
 have h1 : FZL 6 σ.blk (SA.bk a) [.sl a R.length] [.sl d R.length] := by
  have := FZL.cons f1 (FZL.nil) (by simp)
  simpa using this
 have h7 := FZL.append h6 h1 (by simp)
 have := FZL.cons (FZ.agg h7) (FZL.flat (H := σ.blk) (d := 6) (vs := [.b true]) rfl) (by simp)
 have := FZ.tup this
 simpa using this
theorem XLrraws_ok {σ h : AH O} {r49 : AV × AH O} {a : SA} {w : List Bs} (ha : Strs a w) (hn : w.length ≤ 1000000) {k B0 B1 n3 : Nat} {A3 : SA} (hB0 : h.next = B0) (hB1 : r49.2.next = B1) (hlt : B0 < B1)
  (b1 : σ.blk B1 = some (.cells true 50 [.i .i64 0, .i .i64 0, .i .i64 0, .i .i64 0, .b false, .sl A3 n3, .sl .nil 0])) (b0 : σ.blk B0 = some (.cells true 50 [.i .i64 0, .i .i64 0, .i .i64 0, .i .i64 0, .b false, .sl .nil 0, .sl .nil 0])) (n1 : B1 < σ.next) (hk : k + 1 ≤ w.length) :
  Ok (loopF (S := List AV × AH O) (T := (List AV × AH O) ⊕ (AV × AH O)) (haymowref46_readNode_L2 (a, w.length) haymowref03_ReadHex h r49) ([.i .i64 ((k + 1 : Nat) : Int)], σ)) fun r => match r with
   | .inl q => ∃ l a', lhexsR (w.drop (k + 1)) = some l ∧ q.1 = [] ∧ OwnS q.2 82 1 a' l.length (l.map (AV.i .u64)) ∧ q.2.blk B1 = some (.cells true 50 [.i .i64 0, .i .i64 0, .i .i64 0, .i .i64 0, .b false, .sl A3 n3, .sl a' l.length]) ∧ Chg [B1] σ q.2 ∧ ∀ b ∈ SA.bk a', σ.next ≤ b
   | .inr q => lhexsR (w.drop (k + 1)) = none ∧ q.1 = .tup [.agg [.i .i64 0, .i .i64 0, .i .i64 0, .i .i64 0, .b false, .sl .nil 0, .sl .nil 0], .b false] ∧ Chg [B0, B1] σ q.2 := by
 refine Ok.count (w.length - (k + 1)) (fun j s => ∃ l a' σ', l.length = j ∧ s = ([.i .i64 ((k + 1 + j : Nat) : Int)], σ') ∧ OwnS σ' 82 1 a' j (l.map (AV.i .u64)) ∧ σ'.blk B1 = some (.cells true 50 [.i .i64 0, .i .i64 0, .i .i64 0, .i .i64 0, .b false, .sl A3 n3, .sl a' j]) ∧ Chg [B1] σ σ' ∧ (∀ b ∈ SA.bk a', σ.next ≤ b) ∧ lhexsR (w.drop (k + 1)) = (lhexsR (w.drop (k + 1 + j))).map (l ++ ·)) ?_ ?_ ⟨[], .nil, σ, rfl, rfl, OwnS.nil _ _ _, b1, Chg.refl _ _, by simp [SA.bk], by simp⟩
 ·rintro j _ hj ⟨l, a', σ', hl, rfl, own, c1, E, fr, hr⟩
  have hx : w[k + 1 + j]? = some w[k + 1 + j] := List.getElem?_eq_getElem (by omega)
  have hd : w.drop (k + 1 + j) = w[k + 1 + j] :: w.drop (k + 1 + j + 1) := List.drop_eq_getElem_cons (by omega)
  have c0 : σ'.blk B0 = some (.cells true 50 [.i .i64 0, .i .i64 0, .i .i64 0, .i .i64 0, .b false, .sl .nil 0, .sl .nil 0]) := by rw [E.blk _ (by omega) (by simp; omega)]; exact b0
  have n2 := E.next
  rw [hd, lhexsR] at hr
  generalize w[k + 1 + j] = s at *
  obtain ⟨bb, oo, r1, ld⟩ := strs_ref ha hx
  have ld := ld O σ'
  have dk : decide (((k + 1 + j : Nat) : Int) < (w.length : Int)) = true := decide_eq_true (by omega)
  have d0 : decide ((0 : Int) ≤ ((k + 1 + j : Nat) : Int)) = true := decide_eq_true (by omega)
  have t3 : (true && true) = true := rfl
  have e1 : IntKind.i64.wrap (((k + 1 + j : Nat) : Int) + 1) = ((k + 1 + (j + 1) : Nat) : Int) := by rw [i64_id (by omega) (by omega)]; omega
  have bl : Nat.ble ((j + 1) * 9) 35184372088832 = true := Nat.ble_eq_true_of_le (by omega)
  have bl' : decide ((j + 1) * 9 ≤ 35184372088832) = true := decide_eq_true (by omega)
  generalize hm : k + 1 + j = m at *
  have k1 : m * 1 = m := Nat.mul_one m
  simp -implicitDefEqProofs only [haymowref46_readNode_L2, dk, d0, t3, r1, Int.toNat_natCast, k1, ld, hB0, hB1, Nat.reduceAdd, Nat.reduceMul, Nat.reduceLT, Int.reduceToNat, Int.reduceAdd, Int.reduceSub, Int.reduceMul, rsU, s_ldI, s_ldU, s_ldS, s_ldP, s_gtI, s_gtU, s_gtS, s_bleD, Nat.reduceLeDiff, decide_true, decide_false]
  refine Ok.step rReadHex_ok ?_
  rintro _ rfl
  simp only [hexA]
  cases h0 : hexR s with
  | some n =>
   rw [h0] at hr
   simp only at hr
   simp -implicitDefEqProofs only [Bool.not_true, Bool.not_false, c1, Nat.reduceAdd, Nat.reduceMul, Nat.reduceLT, Int.reduceToNat, Int.reduceAdd, Int.reduceSub, Int.reduceMul, rsU, s_ldI, s_ldU, s_ldS, s_ldP, s_gtI, s_gtU, s_gtS, s_bleD, Nat.reduceLeDiff, decide_true, decide_false]
   simp -implicitDefEqProofs only [rdNew1, bl, bl', Nat.reduceAdd, Nat.reduceMul, Nat.reduceLT, Int.reduceToNat, Int.reduceAdd, Int.reduceSub, Int.reduceMul, rsU, s_ldI, s_ldU, s_ldS, s_ldP, s_gtI, s_gtU, s_gtS, s_bleD, Nat.reduceLeDiff, decide_true, decide_false]
   refine Ok.step (grow1 own) ?_
   rintro ⟨v, σ2⟩ ⟨a2, g1, g2, g3, g4⟩
   simp only at g1 g2 g3 g4
   subst g1
   have c2 : σ2.blk B1 = some (.cells true 50 [.i .i64 0, .i .i64 0, .i .i64 0, .i .i64 0, .b false, .sl A3 n3, .sl a' j]) := by rw [g3.blk _ (by omega) (fun h => by have := fr _ h; omega)]; exact c1
   simp -implicitDefEqProofs only [e1, c2, Nat.reduceAdd, Nat.reduceMul, Nat.reduceLT, Int.reduceToNat, Int.reduceAdd, Int.reduceSub, Int.reduceMul, rsU, s_ldI, s_ldU, s_ldS, s_ldP, s_gtI, s_gtU, s_gtS, s_bleD, Nat.reduceLeDiff, decide_true, decide_false]
   have n3' := g3.next
   refine Ok_some.2 ⟨l ++ [(n : Int)], a2, _, by simp [hl], rfl, ?_, s_bs, ?_, fun b hb => by have := g4 b hb; omega, ?_⟩
   ·have g2' : OwnS σ2 82 1 a2 (j + 1) ((l ++ [(n : Int)]).map (AV.i .u64)) := by simpa using g2
    exact g2'.of (Nat.le_refl _) fun b hb => by have := g4 b hb; rw [s_bn (by omega)]
   ·refine Chg.put ⟨Nat.le_trans E.next g3.next, fun b hb hne => ?_⟩ (.inl (by simp)) _
    rw [g3.blk b (by omega) (fun h => by have := fr _ h; omega)]; exact E.blk b hb hne
   ·rw [hr]; simp [Function.comp_def]; rw [show k + 1 + (j + 1) = m + 1 by omega]
  | none =>
   rw [h0] at hr
   simp only at hr
   simp -implicitDefEqProofs only [Bool.not_true, Bool.not_false, c0, Nat.reduceAdd, Nat.reduceMul, Nat.reduceLT, Int.reduceToNat, Int.reduceAdd, Int.reduceSub, Int.reduceMul, rsU, s_ldI, s_ldU, s_ldS, s_ldP, s_gtI, s_gtU, s_gtS, s_bleD, Nat.reduceLeDiff, decide_true, decide_false]
   exact Ok_some.2 ⟨hr, rfl, (E.mono (by simp)).put (.inl (by simp)) _⟩
 ·rintro _ ⟨l, a', σ', hl, rfl, own, c1, E, fr, hr⟩
  rw [show k + 1 + (w.length - (k + 1)) = w.length by omega] at *
  have dk : decide ((w.length : Int) < (w.length : Int)) = false := decide_eq_false (by omega)
  simp -implicitDefEqProofs only [haymowref46_readNode_L2, dk, Nat.reduceAdd, Nat.reduceMul, Nat.reduceLT, Int.reduceToNat, Int.reduceAdd, Int.reduceSub, Int.reduceMul, rsU, s_ldI, s_ldU, s_ldS, s_ldP, s_gtI, s_gtU, s_gtS, s_bleD, Nat.reduceLeDiff, decide_true, decide_false]
  rw [List.drop_length, lhexsR] at hr
  refine Ok_some.2 ⟨l, a', by rw [hr]; simp, rfl, by rw [hl]; exact own, by rw [hl]; exact c1, E, fr⟩
theorem rReadNode_ok {σ : AH O} {t : Bs} (hl : t.length ≤ 999999) :
  Ok (haymowref46_readNode [.s t] σ) fun r => NodeA (lnodeR (cutB 32 t)) r.1 ∧ Ext σ r.2 := by
 unfold haymowref46_readNode
 refine frz_ok (s := haymowref46_readNode_c haymowref03_Cut haymowref46_numbers haymowref03_ReadHex) (Q := NodeA (lnodeR (cutB 32 t))) ?_
 have fin : ∀ {r : AV × AH O}, NodeA (lnodeR (cutB 32 t)) r.1 → Ext σ r.2 → ∃ v' L, FZ 8 r.2.blk L r.1 v' ∧ (∀ b ∈ L, σ.next ≤ b) ∧ Ext σ r.2 ∧ NodeA (lnodeR (cutB 32 t)) v' := fun {r} h E => ⟨r.1, [], h.fz, by simp, E, h⟩
 have hf := fun v hv => cut_few (c := 32) (w := v) (Nat.le_succ_of_le hl) hv
 have hn : (cutB 32 t).length ≤ 1000000 := by have := cut_len 32 t; omega
 have hCut := fun (σ : AH O) => rCut_ok (σ := σ) (c := 32) (Nat.le_succ_of_le hl)
 generalize cutB 32 t = w at *
 have hno : ¬ nodeOK w → lnodeR w = none := fun h => by unfold lnodeR; rw [if_neg h]
 unfold haymowref46_readNode_c
 refine Ok.cT rfl ?_
 refine Ok.to (x := t) rfl ?_
 refine Ok.step (hCut _) ?_
 rintro ⟨v, σ2⟩ ⟨⟨a, e, ha⟩, E2⟩
 simp only at e E2
 subst e
 have b2 : σ2.blk σ.next = some (.cells true 50 [.i .i64 0, .i .i64 0, .i .i64 0, .i .i64 0, .b false, .sl .nil 0, .sl .nil 0]) := by rw [E2.blk _ (by simp)]; exact s_bs
 have n2 : σ.next + 1 ≤ σ2.next := by have := E2.next; simpa using this
 have E2 : Ext σ σ2 := (((Ext.refl σ).bump 1).put (Nat.le_refl _) _).trans E2
 have t1 : (true == true) = true := rfl
 have t2 : (false == true) = false := rfl
 have t3 : (true == false) = false := rfl
 have t4 : (false == false) = true := rfl
 have t5 : (true && true) = true := rfl
 refine Ok.to (x := (a, w.length)) rfl ?_
 refine Ok.step (rcolon_ok ha (Nat.le_succ_of_le hn)) ?_
 rintro _ rfl
 refine Ok.to (x := (colonAt w : Int)) rfl ?_
 have hcl := colon_le w
 generalize hm : (colonAt w : Int) = m
 refine Ok.step (Q := fun r => ∃ b, r = ([.b b], σ2) ∧ (b = false ↔ (4 ≤ m ∧ colonAt w < w.length))) ?_ ?_
 ·by_cases h4 : m = (w.length : Int)
  ·have d4 : (m == (w.length : Int)) = true := by simpa using h4
   simp -implicitDefEqProofs only [d4, t3, Nat.reduceAdd, Nat.reduceMul, Nat.reduceLT, Int.reduceToNat, Int.reduceAdd, Int.reduceSub, Int.reduceMul, rsU, s_ldI, s_ldU, s_ldS, s_ldP, s_gtI, s_gtU, s_gtS, s_bleD, Nat.reduceLeDiff, decide_true, decide_false]
   exact Ok_some.2 ⟨true, rfl, by simp; omega⟩
  ·have d4 : (m == (w.length : Int)) = false := by simpa using h4
   simp -implicitDefEqProofs only [d4, t4, Nat.reduceAdd, Nat.reduceMul, Nat.reduceLT, Int.reduceToNat, Int.reduceAdd, Int.reduceSub, Int.reduceMul, rsU, s_ldI, s_ldU, s_ldS, s_ldP, s_gtI, s_gtU, s_gtS, s_bleD, Nat.reduceLeDiff, decide_true, decide_false]
   exact Ok_some.2 ⟨_, rfl, by simp; omega⟩
 rintro _ ⟨b15, rfl, hb15⟩
 refine Ok.to (x := b15) rfl ?_
 refine Ok.step (Q := fun r => ∃ b, r = ([.b b], σ2) ∧ (b = false ↔ (4 ≤ m ∧ colonAt w < w.length ∧ w[0]? = some nodeB))) ?_ ?_
 ·cases b15 with
  | true =>
   simp -implicitDefEqProofs only [t3, Nat.reduceAdd, Nat.reduceMul, Nat.reduceLT, Int.reduceToNat, Int.reduceAdd, Int.reduceSub, Int.reduceMul, rsU, s_ldI, s_ldU, s_ldS, s_ldP, s_gtI, s_gtU, s_gtS, s_bleD, Nat.reduceLeDiff, decide_true, decide_false]
   refine Ok_some.2 ⟨true, rfl, ?_⟩
   simp only [Bool.true_eq_false, false_iff] at hb15 ⊢
   exact fun h => hb15 ⟨h.1, h.2.1⟩
  | false =>
   obtain ⟨h4, hw1⟩ := hb15.1 rfl
   obtain ⟨x0, h0⟩ : ∃ x, w[0]? = some x := ⟨w[0], List.getElem?_eq_getElem (by omega)⟩
   obtain ⟨b, o, r0, ld0⟩ := strs_ref ha h0
   have ld0 := ld0 O σ2
   rw [Nat.add_zero] at ld0
   have g0 : decide ((0 : Int) < (w.length : Int)) = true := decide_eq_true (by omega)
   simp -implicitDefEqProofs only [t4, g0, r0, ld0, Nat.reduceAdd, Nat.reduceMul, Nat.reduceLT, Int.reduceToNat, Int.reduceAdd, Int.reduceSub, Int.reduceMul, rsU, s_ldI, s_ldU, s_ldS, s_ldP, s_gtI, s_gtU, s_gtS, s_bleD, Nat.reduceLeDiff, decide_true, decide_false]
   refine Ok_some.2 ⟨_, rfl, ?_⟩
   rw [h0]
   simp only [Bool.not_eq_false', beq_iff_eq, Option.some.injEq, nodeB]
   exact ⟨fun h => ⟨h4, hw1, h⟩, fun h => h.2.2⟩
 rintro _ ⟨b20, rfl, hb20⟩
 refine Ok.to (x := b20) rfl ?_
 refine Ok.step (Q := fun r => ∃ b, r = ([.b b], σ2) ∧ (b = false ↔ nodeOK w)) ?_ ?_
 ·cases b20 with
  | true =>
   simp -implicitDefEqProofs only [t3, Nat.reduceAdd, Nat.reduceMul, Nat.reduceLT, Int.reduceToNat, Int.reduceAdd, Int.reduceSub, Int.reduceMul, rsU, s_ldI, s_ldU, s_ldS, s_ldP, s_gtI, s_gtU, s_gtS, s_bleD, Nat.reduceLeDiff, decide_true, decide_false]
   refine Ok_some.2 ⟨true, rfl, ?_⟩
   simp only [Bool.true_eq_false, false_iff] at hb20 ⊢
   rintro ⟨p1, p2, p3, p4⟩
   exact hb20 ⟨by omega, p2, p3⟩
  | false =>
   obtain ⟨h4, hw1, h0⟩ := hb20.1 rfl
   obtain ⟨x1, h1⟩ : ∃ x, w[1]? = some x := ⟨w[1], List.getElem?_eq_getElem (by omega)⟩
   obtain ⟨b, o, r0, ld0⟩ := strs_ref ha h1
   have ld0 := ld0 O σ2
   have g0 : decide ((1 : Int) < (w.length : Int)) = true := decide_eq_true (by omega)
   by_cases q : x1 = largeB
   ·have q1 : (x1 == ([108, 97, 114, 103, 101] : List UInt8)) = true := by rw [q]; rfl
    simp -implicitDefEqProofs only [t4, t2, g0, r0, ld0, q1, Bool.not_true, Nat.reduceAdd, Nat.reduceMul, Nat.reduceLT, Int.reduceToNat, Int.reduceAdd, Int.reduceSub, Int.reduceMul, rsU, s_ldI, s_ldU, s_ldS, s_ldP, s_gtI, s_gtU, s_gtS, s_bleD, Nat.reduceLeDiff, decide_true, decide_false]
    exact Ok_some.2 ⟨false, rfl, by simp only [true_iff]; exact ⟨by omega, hw1, h0, .inl (by rw [h1, q])⟩⟩
   ·have q1 : (x1 == ([108, 97, 114, 103, 101] : List UInt8)) = false := by simpa [largeB] using q
    simp -implicitDefEqProofs only [t4, t1, g0, r0, ld0, q1, Bool.not_false, Nat.reduceAdd, Nat.reduceMul, Nat.reduceLT, Int.reduceToNat, Int.reduceAdd, Int.reduceSub, Int.reduceMul, rsU, s_ldI, s_ldU, s_ldS, s_ldP, s_gtI, s_gtU, s_gtS, s_bleD, Nat.reduceLeDiff, decide_true, decide_false]
    refine Ok_some.2 ⟨_, rfl, ?_⟩
    simp only [Bool.not_eq_false', beq_iff_eq]
    constructor
    ·intro h; exact ⟨by omega, hw1, h0, .inr (by rw [h1, h]; rfl)⟩
    ·rintro ⟨_, _, _, h | h⟩
     ·rw [h1] at h; exact absurd (Option.some.inj h) q
     ·rw [h1] at h; exact Option.some.inj h
 rintro _ ⟨b27, rfl, hb27⟩
 refine Ok.to (x := b27) rfl ?_
 cases b27 with
 | true =>
  have hN : ¬ nodeOK w := fun h => by cases hb27.2 h
  refine Ok.cT rfl ?_
  simp -implicitDefEqProofs only [b2, Nat.reduceAdd, Nat.reduceMul, Nat.reduceLT, Int.reduceToNat, Int.reduceAdd, Int.reduceSub, Int.reduceMul, rsU, s_ldI, s_ldU, s_ldS, s_ldP, s_gtI, s_gtU, s_gtS, s_bleD, Nat.reduceLeDiff, decide_true, decide_false]
  exact Ok_some.2 (fin (by rw [hno hN]; rfl) (E2.put (Nat.le_refl _) _))
 | false =>
  have hN : nodeOK w := hb27.1 rfl
  have hL : lnodeR w = match lnumsR ((w.take (colonAt w)).drop 2), lhexsR (w.drop (colonAt w + 1)) with
    | some n, some r => some (mkN (decide (w[1]? = some largeB)) n r)
    | _, _ => none := by unfold lnodeR; rw [if_pos hN]; rfl
  obtain ⟨k4, kn, k0, k1⟩ := hN
  refine Ok.cF rfl ?_
  generalize colonAt w = k at *
  have c1 : (decide ((2 : Int) ≤ m) && decide (m ≤ (w.length : Int))) = true := by rw [decide_eq_true (by omega), decide_eq_true (by omega)]; rfl
  refine Ok.cT c1 ?_
  obtain ⟨a1, r1, s1, l1⟩ := strs_mid ha (lo := 2) (hi := k) (by omega) (by omega)
  refine Ok.to (x := a1) r1 ?_
  have H1 := rnums_ok (σ := σ2) s1 (fun v hv => Nat.le_trans (hf v (List.mem_of_mem_take (List.mem_of_mem_drop hv))) (by omega)) (by omega)
  have e1 : ((w.take k).drop 2).length = m.toNat - 2 := by omega
  generalize hws1 : (w.take k).drop 2 = ws1 at *
  rw [e1] at H1
  refine Ok.step H1 ?_
  rintro ⟨v, σ3⟩ ⟨q1, E3⟩
  simp only at q1 E3
  obtain ⟨A1, n1, k1', rfl, hk1, hk1'⟩ : ∃ A n k, v = .tup [.sl A n, .b k] ∧ (k = true → ∃ l, lnumsR ws1 = some l ∧ n = l.length ∧ Ints .i64 A l) ∧ (k = false → lnumsR ws1 = none) := by
   cases hR : lnumsR ws1 with
   | some l =>
    rw [hR] at q1
    obtain ⟨a', rfl, h2⟩ := q1
    exact ⟨_, _, _, rfl, fun _ => ⟨l, rfl, rfl, h2⟩, fun h => Bool.noConfusion h⟩
   | none =>
    rw [hR] at q1
    exact ⟨_, _, _, q1, fun h => Bool.noConfusion h, fun _ => rfl⟩
  refine Ok.to (x := [.sl A1 n1, .b k1']) rfl ?_
  refine Ok.to (x := (A1, n1)) rfl ?_
  refine Ok.to (x := k1') rfl ?_
  have b4 : σ3.blk σ.next = some (.cells true 50 [.i .i64 0, .i .i64 0, .i .i64 0, .i .i64 0, .b false, .sl .nil 0, .sl .nil 0]) := by rw [E3.blk _ (by omega)]; exact b2
  have n4 : σ.next + 1 ≤ σ3.next := by have := E3.next; omega
  have EE : Ext σ σ3 := E2.trans E3
  clear H1 E3 E2 b2 n2
  cases k1' with
  | false =>
   refine Ok.cT rfl ?_
   simp -implicitDefEqProofs only [b4, Nat.reduceAdd, Nat.reduceMul, Nat.reduceLT, Int.reduceToNat, Int.reduceAdd, Int.reduceSub, Int.reduceMul, rsU, s_ldI, s_ldU, s_ldS, s_ldP, s_gtI, s_gtU, s_gtS, s_bleD, Nat.reduceLeDiff, decide_true, decide_false]
   refine Ok_some.2 (fin ?_ (EE.put (Nat.le_refl _) _))
   rw [hL, hk1' rfl]; rfl
  | true =>
   refine Ok.cF rfl ?_
   obtain ⟨l, g1, rfl, g2⟩ := hk1 rfl
   have l1' := lnumsR_len g1
   have hl : l.length = k - 2 := by omega
   obtain ⟨A3, v1, v2⟩ := ints_drop g2 (lo := 2) (by omega)
   have d1 : (decide ((2 : Int) ≤ (l.length : Int)) && decide ((l.length : Int) ≤ (l.length : Int))) = true := by rw [decide_eq_true (by omega), decide_eq_true (by omega)]; rfl
   refine Ok.cT d1 ?_
   refine Ok.to (x := A3) v1 ?_
   generalize hσ4 : (σ3.bump 1).put σ3.next (.cells true 50 [.i .i64 0, .i .i64 0, .i .i64 0, .i .i64 0, .b false, .sl A3 (l.length - 2), .sl .nil 0]) = σ4
   have hst : ((σ3.bump 1).put σ3.next (.cells true 50 [.i .i64 0, .i .i64 0, .i .i64 0, .i .i64 0, .b false, .sl .nil 0, .sl .nil 0])).st (.n σ3.next) 0 [.i .i64 0, .i .i64 0, .i .i64 0, .i .i64 0, .b false, .sl A3 (((l.length : Nat) : Int).toNat - 2), .sl .nil 0] = some σ4 := by
    rw [← hσ4]
    simp -implicitDefEqProofs only [Int.toNat_natCast, Nat.reduceAdd, Nat.reduceMul, Nat.reduceLT, Int.reduceToNat, Int.reduceAdd, Int.reduceSub, Int.reduceMul, rsU, s_ldI, s_ldU, s_ldS, s_ldP, s_gtI, s_gtU, s_gtS, s_bleD, Nat.reduceLeDiff, decide_true, decide_false]
   refine Ok.to (x := σ4) hst ?_
   have ew : IntKind.i64.wrap (m + 1) = ((k + 1 : Nat) : Int) := by rw [i64_id (by omega) (by omega)]; omega
   rw [ew]
   have c1' : σ4.blk σ3.next = some (.cells true 50 [.i .i64 0, .i .i64 0, .i .i64 0, .i .i64 0, .b false, .sl A3 (l.length - 2), .sl .nil 0]) := by rw [← hσ4]; exact s_bs
   have c0' : σ4.blk σ.next = some (.cells true 50 [.i .i64 0, .i .i64 0, .i .i64 0, .i .i64 0, .b false, .sl .nil 0, .sl .nil 0]) := by rw [← hσ4, s_bn (by omega)]; exact b4
   have n4' : σ3.next < σ4.next := by rw [← hσ4]; simp
   have E4 : Ext σ σ4 := by rw [← hσ4]; exact (EE.bump 1).put (by omega) _
   refine Ok.bindS (XLrraws_ok (h := σ) ha hn rfl rfl (show σ.next < σ3.next by omega) c1' c0' n4' (by omega)) (fun q hq => ?_) (fun r hr => ?_)
   ·obtain ⟨r, a', g3, g4, own, d1, C, fr⟩ := hq
    obtain ⟨q, σ5⟩ := q
    simp only at g4 own d1 C
    obtain ⟨y0, h0⟩ : ∃ y, l[0]? = some y := ⟨l[0], List.getElem?_eq_getElem (by omega)⟩
    obtain ⟨y1, h1⟩ : ∃ y, l[1]? = some y := ⟨l[1], List.getElem?_eq_getElem (by omega)⟩
    obtain ⟨b, o, r0, ld0⟩ := ints_ld g2 h0
    obtain ⟨b', o', r0', ld1⟩ := ints_ld g2 h1
    rw [r0] at r0'
    obtain ⟨rfl, rfl⟩ := Prod.mk.inj (Option.some.inj r0')
    obtain ⟨x1, hx1⟩ : ∃ x, w[1]? = some x := ⟨w[1], List.getElem?_eq_getElem (by omega)⟩
    obtain ⟨b2, o2, r3, ld2⟩ := strs_ref ha hx1
    have ld0 := fun σ => ld0 O σ
    have ld1 := fun σ => ld1 O σ
    have ld2 := fun σ => ld2 O σ
    simp only [Nat.add_zero] at ld0
    have d2 : decide ((0 : Int) < (l.length : Int)) = true := decide_eq_true (by omega)
    have d3 : decide ((1 : Int) < (l.length : Int)) = true := decide_eq_true (by omega)
    have d4 : decide ((1 : Int) < (w.length : Int)) = true := decide_eq_true (by omega)
    have n5 := C.next
    have c0 : σ5.blk σ.next = some (.cells true 50 [.i .i64 0, .i .i64 0, .i .i64 0, .i .i64 0, .b false, .sl .nil 0, .sl .nil 0]) := by rw [C.blk _ (by omega) (by simp; omega)]; exact c0'
    have ne' : σ.next ≠ σ3.next := by omega
    have bb : ∀ x, (σ5.put σ3.next x).blk σ.next = some (.cells true 50 [.i .i64 0, .i .i64 0, .i .i64 0, .i .i64 0, .b false, .sl .nil 0, .sl .nil 0]) := fun x => by rw [s_bn ne']; exact c0
    generalize hnl : l.length = n at *
    simp -implicitDefEqProofs only [d1, d2, d3, d4, r0, r3, ld0, ld1, ld2, bb, Nat.reduceAdd, Nat.reduceMul, Nat.reduceLT, Int.reduceToNat, Int.reduceAdd, Int.reduceSub, Int.reduceMul, rsU, s_ldI, s_ldU, s_ldS, s_ldP, s_gtI, s_gtU, s_gtS, s_bleD, Nat.reduceLeDiff, decide_true, decide_false]
    have e0 : l.getD 0 0 = y0 := by simp [List.getD, h0]
    have e1 : l.getD 1 0 = y1 := by simp [List.getD, h1]
    have e5 : decide (w[1]? = some largeB) = (x1 == ([108, 97, 114, 103, 101] : List UInt8)) := by
     rw [hx1]
     by_cases h : x1 = largeB
     ·rw [h]; rfl
     ·rw [decide_eq_false (fun q => h (Option.some.inj q))]
      exact (by simpa [largeB] using h : (x1 == ([108, 97, 114, 103, 101] : List UInt8)) = false).symm
    have ln : n - 2 = (l.drop 2).length := by rw [List.length_drop, hnl]
    have own' : OwnS ((σ5.put σ3.next (.cells true 50 [.i .i64 ((n - 2 : Nat) : Int), .i .i64 r.length, .i .i64 y0, .i .i64 y1, .b (x1 == ([108, 97, 114, 103, 101] : List UInt8)), .sl A3 (n - 2), .sl a' r.length])).put σ.next (.cells true 50 [.i .i64 ((n - 2 : Nat) : Int), .i .i64 r.length, .i .i64 y0, .i .i64 y1, .b (x1 == ([108, 97, 114, 103, 101] : List UInt8)), .sl A3 (n - 2), .sl a' r.length])) 82 1 a' r.length (r.map (AV.i .u64)) :=
     own.of (Nat.le_refl _) fun b hb => by have := fr b hb; rw [s_bn (by omega), s_bn (by omega)]
    obtain ⟨d, f1, f2⟩ := nodeFz (p := ((n - 2 : Nat) : Int)) (r := r.length) (s := y0) (g := y1) (lg := (x1 == ([108, 97, 114, 103, 101] : List UInt8))) v2 own'
    rw [← ln] at f1
    refine Ok_some.2 ⟨_, _, f1, fun b hb => by have := fr b hb; omega, ?_, ?_⟩
    ·have E5 : Ext σ σ5 := ⟨by omega, fun b hb => (C.blk b (by have := E4.next; omega) (by simp; omega)).trans (E4.blk b hb)⟩
     exact (E5.put (by omega) _).put (Nat.le_refl _) _
    ·rw [hL, g1, g3]
     refine ⟨A3, d, ?_, v2, f2⟩
     simp only [mkN, NV.cells, e0, e1, e5, hnl, ← ln]
   ·obtain ⟨g3, g4, C⟩ := hr
    refine fin ?_ ⟨by have := C.next; have := E4.next; omega, fun b hb => (C.blk b (by have := E4.next; omega) (by simp; omega)).trans (E4.blk b hb)⟩
    rw [hL, g1, g3]; exact g4
end Go.Abs.Tryd
namespace Go.Abs.Tryd
open Go Go.Abs
variable {O : Type}
theorem grow1E {σ σ1 : AH O} {el : TypeId} {a : SA} {n : Nat} {cs : List AV} {v : AV} (ho : OwnS σ el 1 a n cs) (E : Ext (σ.bump 2) σ1) :
  Ok ((σ1.put σ.next (.cells true el [v])).appSl (σ.next + 1) el 1 a n 1 [v]) fun r => ∃ a', r.1 = .sl a' (n + 1) ∧ OwnS r.2 el 1 a' (n + 1) (cs ++ [v]) ∧ Chg (SA.bk a) σ r.2 ∧ ∀ b ∈ SA.bk a', σ.next ≤ b ∧ b < r.2.next := by
 have hlt := ho.lt
 have n0 : σ.next + 2 ≤ σ1.next := by simpa using E.next
 generalize hσ : σ1.put σ.next (.cells true el [v]) = σ2
 have n1 : σ2.next = σ1.next := by rw [← hσ]; rfl
 have b1 : ∀ b, b < σ.next → σ2.blk b = σ.blk b := fun b hb => by rw [← hσ, s_bn (by omega), E.blk b (by simp; omega)]; rfl
 clear hσ
 have ho1 : OwnS σ2 el 1 a n cs := ho.of (by omega) fun b hb => b1 b (hlt b hb)
 refine (app_ok (nid := σ.next + 1) ho1 (fun hm => by have := hlt _ hm; omega) (by omega) (show ([v] : List AV).length = 1 * 1 from rfl)).mono fun r ⟨a', g1, g2, g3, g4, g5⟩ => ⟨a', g1, g2, ⟨by omega, fun b hb hm => (g4 b (by omega) hm).trans (b1 b hb)⟩, fun b hb => by have := g5 b hb; omega⟩
theorem gHexI {σ : AH O} {x : Int} (h : U64 x) : Ok (digits_Hex [.i .u64 x] σ) fun r => r.1 = .s (hexI x) ∧ Ext σ r.2 := by
 obtain ⟨h0, h1⟩ := h
 have := gHex_ok (σ := σ) (w := x.toNat) (by omega)
 rwa [Int.toNat_of_nonneg h0] at this
theorem hexN_len : ∀ k w, (hexN k w).length = k
 | 0, _ => rfl
 | k + 1, w => by rw [hexN, List.length_append, hexN_len k]; rfl
theorem hexI_few {x : Int} : (hexI x).length ≤ 21 := by unfold hexI hexT; rw [hexN_len]; omega
theorem XLgp_ok {σ0 σ : AH O} {c a : SA} {l : List Int} {ws0 : List Bs} (hc : Ints .i64 c l) (hr : ∀ n ∈ l, I64 n) (hl : l.length ≤ 1200) (hw : ws0.length ≤ 100000) (own : OwnS σ 9 1 a ws0.length (ws0.map AV.s)) (E0 : Ext σ0 σ) (fr : ∀ b ∈ SA.bk a, σ0.next ≤ b) :
  Ok (loopF (S := List AV × AH O) (T := List AV × AH O) (lines_node_L1 (c, l.length) digits_Text) ([.sl a ws0.length, .i .i64 0], σ)) fun r => ∃ a', r.1 = [.sl a' (ws0 ++ l.map numT).length] ∧ OwnS r.2 9 1 a' (ws0 ++ l.map numT).length ((ws0 ++ l.map numT).map AV.s) ∧ Ext σ0 r.2 ∧ ∀ b ∈ SA.bk a', σ0.next ≤ b := by
 refine Ok.count l.length (fun k s => ∃ ws a' σ', ws = ws0 ++ (l.take k).map numT ∧ s = ([.sl a' ws.length, .i .i64 (k : Int)], σ') ∧ OwnS σ' 9 1 a' ws.length (ws.map AV.s) ∧ Ext σ0 σ' ∧ (∀ b ∈ SA.bk a', σ0.next ≤ b)) ?_ ?_ ⟨ws0, a, σ, by simp, rfl, own, E0, fr⟩
 ·rintro k _ hk ⟨ws, a', σ', hws, rfl, own, E, fr⟩
  have hx : l[k]? = some l[k] := List.getElem?_eq_getElem hk
  have hm := hr _ (List.getElem_mem hk)
  have htk : l.take (k + 1) = l.take k ++ [l[k]] := by rw [List.take_add_one, hx]; rfl
  generalize l[k] = x at *
  obtain ⟨bb, oo, r1, ld⟩ := ints_ld hc hx
  have ld := fun σ => ld O σ
  have dk : decide ((k : Int) < (l.length : Int)) = true := decide_eq_true (by omega)
  have d0 : decide ((0 : Int) ≤ (k : Int)) = true := decide_eq_true (by omega)
  have t3 : (true && true) = true := rfl
  have k1 : k * 1 = k := Nat.mul_one k
  have e1 : IntKind.i64.wrap ((k : Int) + 1) = ((k + 1 : Nat) : Int) := by rw [i64_id (by omega) (by omega)]; omega
  have hwl : ws.length = ws0.length + k := by rw [hws]; simp [List.length_take]; omega
  have bl : Nat.ble ((ws.length + 1) * 17) 35184372088832 = true := Nat.ble_eq_true_of_le (by omega)
  have bl' : decide ((ws.length + 1) * 17 ≤ 35184372088832) = true := decide_eq_true (by omega)
  generalize hn : ws.length = n at *
  simp -implicitDefEqProofs only [lines_node_L1, dk, d0, t3, r1, Int.toNat_natCast, k1, ld, Nat.reduceAdd, Nat.reduceMul, Nat.reduceLT, Int.reduceToNat, Int.reduceAdd, Int.reduceSub, Int.reduceMul, rsU, s_ldI, s_ldU, s_ldS, s_ldP, s_gtI, s_gtU, s_gtS, s_bleD, Nat.reduceLeDiff, decide_true, decide_false]
  refine Ok.step (gText_ok hm) ?_
  rintro ⟨v, σ1⟩ ⟨v1, E1⟩
  simp only at v1 E1
  subst v1
  simp -implicitDefEqProofs only [Nat.reduceAdd, Nat.reduceMul, Nat.reduceLT, Int.reduceToNat, Int.reduceAdd, Int.reduceSub, Int.reduceMul, rsU, s_ldI, s_ldU, s_ldS, s_ldP, s_gtI, s_gtU, s_gtS, s_bleD, Nat.reduceLeDiff, decide_true, decide_false]
  simp -implicitDefEqProofs only [rdNew1, bl, bl', Nat.reduceAdd, Nat.reduceMul, Nat.reduceLT, Int.reduceToNat, Int.reduceAdd, Int.reduceSub, Int.reduceMul, rsU, s_ldI, s_ldU, s_ldS, s_ldP, s_gtI, s_gtU, s_gtS, s_bleD, Nat.reduceLeDiff, decide_true, decide_false]
  refine Ok.step (grow1E own E1) ?_
  rintro ⟨v, σ2⟩ ⟨a2, g1, g2, g3, g4⟩
  simp only at g1 g2 g3 g4
  subst g1
  simp -implicitDefEqProofs only [e1, Nat.reduceAdd, Nat.reduceMul, Nat.reduceLT, Int.reduceToNat, Int.reduceAdd, Int.reduceSub, Int.reduceMul, rsU, s_ldI, s_ldU, s_ldS, s_ldP, s_gtI, s_gtU, s_gtS, s_bleD, Nat.reduceLeDiff, decide_true, decide_false]
  exact Ok_some.2 ⟨ws ++ [numT x], a2, σ2, by rw [htk, hws]; simp, by simp [hn], by simpa [hn] using g2, Chg.new E fr g3, fun b hb => by have := g4 b hb; have := E.next; omega⟩
 ·rintro _ ⟨ws, a', σ', hws, rfl, own, E, fr⟩
  have dk : decide ((l.length : Int) < (l.length : Int)) = false := decide_eq_false (by omega)
  simp -implicitDefEqProofs only [lines_node_L1, dk, Nat.reduceAdd, Nat.reduceMul, Nat.reduceLT, Int.reduceToNat, Int.reduceAdd, Int.reduceSub, Int.reduceMul, rsU, s_ldI, s_ldU, s_ldS, s_ldP, s_gtI, s_gtU, s_gtS, s_bleD, Nat.reduceLeDiff, decide_true, decide_false]
  rw [List.take_length] at hws
  subst hws
  exact Ok_some.2 ⟨a', rfl, own, E, fr⟩
theorem XLgr_ok {σ0 σ : AH O} {c a : SA} {l : List Int} {ws0 : List Bs} (hc : Ints .u64 c l) (hr : ∀ n ∈ l, U64 n) (hl : l.length ≤ 1200) (hw : ws0.length ≤ 100000) (own : OwnS σ 9 1 a ws0.length (ws0.map AV.s)) (E0 : Ext σ0 σ) (fr : ∀ b ∈ SA.bk a, σ0.next ≤ b) :
  Ok (loopF (S := List AV × AH O) (T := List AV × AH O) (lines_node_L2 (c, l.length) digits_Hex) ([.sl a ws0.length, .i .i64 0], σ)) fun r => ∃ a', r.1 = [.sl a' (ws0 ++ l.map hexI).length] ∧ OwnS r.2 9 1 a' (ws0 ++ l.map hexI).length ((ws0 ++ l.map hexI).map AV.s) ∧ Ext σ0 r.2 ∧ ∀ b ∈ SA.bk a', σ0.next ≤ b := by
 refine Ok.count l.length (fun k s => ∃ ws a' σ', ws = ws0 ++ (l.take k).map hexI ∧ s = ([.sl a' ws.length, .i .i64 (k : Int)], σ') ∧ OwnS σ' 9 1 a' ws.length (ws.map AV.s) ∧ Ext σ0 σ' ∧ (∀ b ∈ SA.bk a', σ0.next ≤ b)) ?_ ?_ ⟨ws0, a, σ, by simp, rfl, own, E0, fr⟩
 ·rintro k _ hk ⟨ws, a', σ', hws, rfl, own, E, fr⟩
  have hx : l[k]? = some l[k] := List.getElem?_eq_getElem hk
  have hm := hr _ (List.getElem_mem hk)
  have htk : l.take (k + 1) = l.take k ++ [l[k]] := by rw [List.take_add_one, hx]; rfl
  generalize l[k] = x at *
  obtain ⟨bb, oo, r1, ld⟩ := ints_ld hc hx
  have ld := fun σ => ld O σ
  have dk : decide ((k : Int) < (l.length : Int)) = true := decide_eq_true (by omega)
  have d0 : decide ((0 : Int) ≤ (k : Int)) = true := decide_eq_true (by omega)
  have t3 : (true && true) = true := rfl
  have k1 : k * 1 = k := Nat.mul_one k
  have e1 : IntKind.i64.wrap ((k : Int) + 1) = ((k + 1 : Nat) : Int) := by rw [i64_id (by omega) (by omega)]; omega
  have hwl : ws.length = ws0.length + k := by rw [hws]; simp [List.length_take]; omega
  have bl : Nat.ble ((ws.length + 1) * 17) 35184372088832 = true := Nat.ble_eq_true_of_le (by omega)
  have bl' : decide ((ws.length + 1) * 17 ≤ 35184372088832) = true := decide_eq_true (by omega)
  generalize hn : ws.length = n at *
  simp -implicitDefEqProofs only [lines_node_L2, dk, d0, t3, r1, Int.toNat_natCast, k1, ld, Nat.reduceAdd, Nat.reduceMul, Nat.reduceLT, Int.reduceToNat, Int.reduceAdd, Int.reduceSub, Int.reduceMul, rsU, s_ldI, s_ldU, s_ldS, s_ldP, s_gtI, s_gtU, s_gtS, s_bleD, Nat.reduceLeDiff, decide_true, decide_false]
  refine Ok.step (gHexI hm) ?_
  rintro ⟨v, σ1⟩ ⟨v1, E1⟩
  simp only at v1 E1
  subst v1
  simp -implicitDefEqProofs only [Nat.reduceAdd, Nat.reduceMul, Nat.reduceLT, Int.reduceToNat, Int.reduceAdd, Int.reduceSub, Int.reduceMul, rsU, s_ldI, s_ldU, s_ldS, s_ldP, s_gtI, s_gtU, s_gtS, s_bleD, Nat.reduceLeDiff, decide_true, decide_false]
  simp -implicitDefEqProofs only [rdNew1, bl, bl', Nat.reduceAdd, Nat.reduceMul, Nat.reduceLT, Int.reduceToNat, Int.reduceAdd, Int.reduceSub, Int.reduceMul, rsU, s_ldI, s_ldU, s_ldS, s_ldP, s_gtI, s_gtU, s_gtS, s_bleD, Nat.reduceLeDiff, decide_true, decide_false]
  refine Ok.step (grow1E own E1) ?_
  rintro ⟨v, σ2⟩ ⟨a2, g1, g2, g3, g4⟩
  simp only at g1 g2 g3 g4
  subst g1
  simp -implicitDefEqProofs only [e1, Nat.reduceAdd, Nat.reduceMul, Nat.reduceLT, Int.reduceToNat, Int.reduceAdd, Int.reduceSub, Int.reduceMul, rsU, s_ldI, s_ldU, s_ldS, s_ldP, s_gtI, s_gtU, s_gtS, s_bleD, Nat.reduceLeDiff, decide_true, decide_false]
  exact Ok_some.2 ⟨ws ++ [hexI x], a2, σ2, by rw [htk, hws]; simp, by simp [hn], by simpa [hn] using g2, Chg.new E fr g3, fun b hb => by have := g4 b hb; have := E.next; omega⟩
 ·rintro _ ⟨ws, a', σ', hws, rfl, own, E, fr⟩
  have dk : decide ((l.length : Int) < (l.length : Int)) = false := decide_eq_false (by omega)
  simp -implicitDefEqProofs only [lines_node_L2, dk, Nat.reduceAdd, Nat.reduceMul, Nat.reduceLT, Int.reduceToNat, Int.reduceAdd, Int.reduceSub, Int.reduceMul, rsU, s_ldI, s_ldU, s_ldS, s_ldP, s_gtI, s_gtU, s_gtS, s_bleD, Nat.reduceLeDiff, decide_true, decide_false]
  rw [List.take_length] at hws
  subst hws
  exact Ok_some.2 ⟨a', rfl, own, E, fr⟩
end Go.Abs.Tryd
namespace Go.Abs.Tryd
open Go Go.Abs
variable {O : Type}
theorem joinS_add (c : UInt8) : ∀ (w : Bs) (ws : List Bs), joinS c (w :: ws) = w ++ ws.flatMap (c :: ·)
 | w, [] => by simp [joinS]
 | w, v :: ws => by rw [joinS_cons c w (by simp), joinS_add c v ws]; simp
theorem joinS_few (c : UInt8) {m : Nat} : ∀ {ws : List Bs}, (∀ w ∈ ws, w.length ≤ m) → (joinS c ws).length ≤ ws.length * (m + 1)
 | [], _ => by simp [joinS]
 | w :: ws, h => by
  rw [joinS_add, List.length_append]
  have h1 := h w (by simp)
  have : ∀ {us : List Bs}, (∀ w ∈ us, w.length ≤ m) → (us.flatMap (c :: ·)).length ≤ us.length * (m + 1) := fun {us} hu => by
   induction us with
   | nil => simp
   | cons u us ih =>
    have := ih fun v hv => hu v (List.mem_cons_of_mem _ hv)
    have := hu u (by simp)
    simp only [List.flatMap_cons, List.length_append, List.length_cons, Nat.add_mul]; omega
  have := this fun v hv => h v (List.mem_cons_of_mem _ hv)
  simp only [List.length_cons, Nat.add_mul]; omega
theorem lnodeW_few {x : NV} (hx : x.rng) : ∀ w ∈ lnodeW x, w.length ≤ 21 := by
 intro w hw
 unfold lnodeW at hw
 simp only [List.mem_append, List.mem_cons, List.mem_map, List.not_mem_nil, or_false] at hw
 rcases hw with (((rfl | rfl | rfl | rfl) | ⟨n, hn, rfl⟩) | (rfl | ⟨n, hn, rfl⟩))
 ·decide
 ·cases x.h.large <;> decide
 ·exact numT_few hx.s
 ·exact numT_few hx.g
 ·exact numT_few (hx.P n hn)
 ·decide
 ·exact hexI_few
theorem lnodeT_few {x : NV} (hx : x.rng) (hp : x.P.length ≤ 1200) (hr : x.R.length ≤ 1200) : (lnodeT x).length ≤ 60000 := by
 have := joinS_few 32 (lnodeW_few hx)
 have e : (lnodeW x).length = 4 + x.P.length + (x.R.length + 1) := by simp [lnodeW]; omega
 unfold lnodeT
 rw [e] at this; omega
theorem join_ok {σ : AH O} {a : SA} {ws : List Bs} {c : UInt8} (own : OwnS σ 9 1 a ws.length (ws.map AV.s)) (h0 : ws ≠ []) (hl : (joinS c ws).length ≤ 1000000) (hn : ws.length ≤ 1000000) :
  Ok (strings_Join [.sl a ws.length, .s [c]] σ) fun r => r = (.s (joinS c ws), σ) := by
 have n0 : Nat.beq ws.length 0 = false := by cases ws with
  | nil => exact absurd rfl h0
  | cons => rfl
 have : strings_Join [.sl a ws.length, .s [c]] σ = some (.s (joinS c ws), σ) := by
  simp only [strings_Join, n0, cond_false, own.rd.rdSl, Option.bind_some, strsOf_map, Nat.ble_eq_true_of_le hl, Nat.ble_eq_true_of_le hn, Bool.and_self, cond_true]
 exact Ok_of this rfl
theorem growS {σ : AH O} {a : SA} {ws : List Bs} {v : Bs} (ho : OwnS σ 9 1 a ws.length (ws.map AV.s)) :
  Ok (((σ.bump 2).put σ.next (.cells true 9 [.s v])).appSl (σ.next + 1) 9 1 a ws.length 1 [.s v]) fun r => ∃ a', r.1 = .sl a' (ws ++ [v]).length ∧ OwnS r.2 9 1 a' (ws ++ [v]).length ((ws ++ [v]).map AV.s) ∧ Chg (SA.bk a) σ r.2 ∧ ∀ b ∈ SA.bk a', σ.next ≤ b ∧ b < r.2.next := by
 refine (grow1 ho).mono fun r ⟨a', h1, h2, h3, h4⟩ => ⟨a', by rw [h1]; simp, by simpa using h2, h3, h4⟩
theorem chkE_eq {x y : Option AV} (h : x = y) : chkE x y = some () := by
 unfold chkE chk
 cases eqOA x y
 ·simp [h]
 ·rfl
theorem gnode_ok {σ : AH O} {x : NV} {c d : SA} (hc : Ints .i64 c x.P) (hd : Ints .u64 d x.R) (hx : x.rng) (hp : x.P.length ≤ 1200) (hr : x.R.length ≤ 1200) :
  Ok (lines_node [.agg (x.cells c d)] σ) fun r => r.1 = .s (lnodeT x) ∧ Ext σ r.2 := by
 unfold lines_node lines_node_c
 refine Ok.cT rfl ?_
 refine Ok.to (x := x.cells c d) rfl ?_
 refine Ok.to (x := x.h.p) rfl ?_
 refine Ok.to (x := x.h.r) rfl ?_
 refine Ok.to (x := x.h.site) rfl ?_
 refine Ok.to (x := x.h.age) rfl ?_
 refine Ok.to (x := x.h.large) rfl ?_
 refine Ok.to (x := (c, x.P.length)) rfl ?_
 refine Ok.to (x := (d, x.R.length)) rfl ?_
 refine Ok.to (x := .b x.h.large) (by simp -implicitDefEqProofs only [Nat.reduceAdd, Nat.reduceMul, Nat.reduceLT, Int.reduceToNat, Int.reduceAdd, Int.reduceSub, Int.reduceMul, rsU, s_ldI, s_ldU, s_ldS, s_ldP, s_gtI, s_gtU, s_gtS, s_bleD, Nat.reduceLeDiff, decide_true, decide_false]) ?_
 refine Ok.to (x := x.h.large) rfl ?_
 generalize hσ2 : (σ.bump 1).put σ.next _ = σ2
 have b2 : σ2.blk σ.next = some (.cells true 48 [.i .i64 x.h.p, .i .i64 x.h.r, .i .i64 x.h.site, .i .i64 x.h.age, .b x.h.large, .sl c x.P.length, .sl d x.R.length]) := by rw [← hσ2]; exact s_bs
 have E2 : Ext σ σ2 := by rw [← hσ2]; exact ((Ext.refl σ).bump 1).put (Nat.le_refl _) _
 have n2 : σ2.next = σ.next + 1 := by rw [← hσ2]; rfl
 clear hσ2
 refine Ok.step (Q := fun r => r = ([.s (markB x.h.large)], σ2)) (by generalize x.h.large = lg; cases lg <;> exact Ok_some.2 rfl) ?_
 rintro _ rfl
 refine Ok.to (x := markB x.h.large) rfl ?_
 refine Ok.to (x := .i .i64 x.h.site) (by simp -implicitDefEqProofs only [b2, Nat.reduceAdd, Nat.reduceMul, Nat.reduceLT, Int.reduceToNat, Int.reduceAdd, Int.reduceSub, Int.reduceMul, rsU, s_ldI, s_ldU, s_ldS, s_ldP, s_gtI, s_gtU, s_gtS, s_bleD, Nat.reduceLeDiff, decide_true, decide_false]) (Ok.to (x := x.h.site) rfl ?_)
 refine Ok.to (x := .i .i64 x.h.age) (by simp -implicitDefEqProofs only [b2, Nat.reduceAdd, Nat.reduceMul, Nat.reduceLT, Int.reduceToNat, Int.reduceAdd, Int.reduceSub, Int.reduceMul, rsU, s_ldI, s_ldU, s_ldS, s_ldP, s_gtI, s_gtU, s_gtS, s_bleD, Nat.reduceLeDiff, decide_true, decide_false]) (Ok.to (x := x.h.age) rfl ?_)
 refine Ok.step (gText_ok hx.s) ?_
 rintro ⟨v, σ3⟩ ⟨v1, E3⟩
 simp only at v1 E3
 subst v1
 refine Ok.to (x := numT x.h.site) rfl ?_
 have n3 : σ2.next + 1 ≤ σ3.next := by simpa using E3.next
 have b3 : σ3.blk σ.next = some (.cells true 48 [.i .i64 x.h.p, .i .i64 x.h.r, .i .i64 x.h.site, .i .i64 x.h.age, .b x.h.large, .sl c x.P.length, .sl d x.R.length]) := by rw [E3.blk _ (by simp; omega)]; exact b2
 refine Ok.to (x := ()) (chkE_eq (by simp -implicitDefEqProofs only [b3, Nat.reduceAdd, Nat.reduceMul, Nat.reduceLT, Int.reduceToNat, Int.reduceAdd, Int.reduceSub, Int.reduceMul, rsU, s_ldI, s_ldU, s_ldS, s_ldP, s_gtI, s_gtU, s_gtS, s_bleD, Nat.reduceLeDiff, decide_true, decide_false])) ?_
 refine Ok.step (gText_ok hx.g) ?_
 rintro ⟨v, σ4⟩ ⟨v1, E4⟩
 simp only at v1 E4
 subst v1
 refine Ok.to (x := numT x.h.age) rfl ?_
 have n4 : σ2.next + 1 ≤ σ4.next := by have := E4.next; omega
 have E24 : Ext σ2 σ4 := ⟨by omega, fun b hb => (E4.blk b (by omega)).trans (E3.blk b (by simp; omega))⟩
 have b4 : ∀ y, (σ4.put σ2.next y).blk σ.next = some (.cells true 48 [.i .i64 x.h.p, .i .i64 x.h.r, .i .i64 x.h.site, .i .i64 x.h.age, .b x.h.large, .sl c x.P.length, .sl d x.R.length]) := fun y => by rw [s_bn (by omega), E24.blk _ (by omega)]; exact b2
 refine Ok.to (x := .sl c x.P.length) (by simp -implicitDefEqProofs only [b4, Nat.reduceAdd, Nat.reduceMul, Nat.reduceLT, Int.reduceToNat, Int.reduceAdd, Int.reduceSub, Int.reduceMul, rsU, s_ldI, s_ldU, s_ldS, s_ldP, s_gtI, s_gtU, s_gtS, s_bleD, Nat.reduceLeDiff, decide_true, decide_false]) (Ok.to (x := (c, x.P.length)) rfl ?_)
 generalize hws0 : ([nodeB, markB x.h.large, numT x.h.site, numT x.h.age] : List Bs) = ws0
 have own5 : OwnS (σ4.put σ2.next (.cells true 9 [.s [110, 111, 100, 101], .s (markB x.h.large), .s (numT x.h.site), .s (numT x.h.age)])) 9 1 (.loc (.n σ2.next) 0 1) ws0.length (ws0.map AV.s) := by
  rw [← hws0]; exact OwnS.new rfl s_bs (by simp; omega)
 have l4 : ws0.length = 4 := by rw [← hws0]; rfl
 have L1 := XLgp_ok (σ0 := σ2) hc hx.P hp (by omega) own5 (E24.put (Nat.le_refl _) _) (by simp [SA.bk])
 rw [l4] at L1
 refine Ok.step L1 ?_
 rintro ⟨v, σ6⟩ ⟨a6, v1, own6, E6, fr6⟩
 simp only at v1 own6 E6
 subst v1
 generalize hws1 : ws0 ++ x.P.map numT = ws1 at *
 have l1 : ws1.length = 4 + x.P.length := by rw [← hws1]; simp [l4]
 refine Ok.to (x := (a6, ws1.length)) rfl ?_
 refine Ok.to (x := [.s [58]]) rdNew1 ?_
 refine Ok.cT (Nat.ble_eq_true_of_le (show (ws1.length + 1) * 17 ≤ _ by omega)) ?_
 refine Ok.step (growS own6) ?_
 rintro ⟨v, σ7⟩ ⟨a7, v1, own7, C7, fr7⟩
 simp only at v1 own7 C7 fr7
 subst v1
 have E7 : Ext σ2 σ7 := Chg.new E6 fr6 C7
 have b7 : σ7.blk σ.next = some (.cells true 48 [.i .i64 x.h.p, .i .i64 x.h.r, .i .i64 x.h.site, .i .i64 x.h.age, .b x.h.large, .sl c x.P.length, .sl d x.R.length]) := by rw [E7.blk _ (by omega)]; exact b2
 have l7 : (ws1 ++ [([58] : Bs)]).length = 5 + x.P.length := by simp [l1]; omega
 have j2 : ws1 ++ [([58] : Bs)] ++ x.R.map hexI = lnodeW x := by rw [← hws1, ← hws0]; simp [lnodeW, colonB]
 generalize ws1 ++ [([58] : Bs)] = ws2 at *
 refine Ok.to (x := (a7, ws2.length)) rfl ?_
 refine Ok.to (x := .sl d x.R.length) (by simp -implicitDefEqProofs only [b7, Nat.reduceAdd, Nat.reduceMul, Nat.reduceLT, Int.reduceToNat, Int.reduceAdd, Int.reduceSub, Int.reduceMul, rsU, s_ldI, s_ldU, s_ldS, s_ldP, s_gtI, s_gtU, s_gtS, s_bleD, Nat.reduceLeDiff, decide_true, decide_false]) (Ok.to (x := (d, x.R.length)) rfl ?_)
 refine Ok.step (XLgr_ok (σ0 := σ2) hd hx.R hr (by omega) own7 E7 (fun b hb => by have := fr7 b hb; have := E6.next; omega)) ?_
 rintro ⟨v, σ8⟩ ⟨a8, v1, own8, E8, fr8⟩
 simp only at v1 own8 E8
 subst v1
 rw [j2] at *
 have lw : (lnodeW x).length = 4 + x.P.length + (x.R.length + 1) := by simp [lnodeW]; omega
 refine Ok.to (x := (a8, (lnodeW x).length)) rfl ?_
 refine Ok.step (join_ok own8 (lnodeW_ne x) (Nat.le_trans (lnodeT_few hx hp hr) (by omega)) (by omega)) ?_
 rintro _ rfl
 exact Ok_some.2 ⟨rfl, E2.trans E8⟩
end Go.Abs.Tryd
namespace Go.Abs.Tryd
open Go Go.Abs
variable {O : Type}
end Go.Abs.Tryd
namespace Go.Abs.Tryd
open Go Go.Abs
variable {O : Type}
def BldS (σ : AH O) (b : Nat) (l : Bs) : Prop := ∃ q a, σ.blk b = some (.cells true 54 [.p q, .sl a l.length]) ∧ (q = none ∨ q = some (.n b, 0)) ∧ OwnS σ 5 1 a l.length (l.map fun c => .i .u8 (c.toNat : Int)) ∧ (∀ k ∈ SA.bk a, b < k) ∧ b < σ.next
structure Low (b : Nat) (σ σ' : AH O) : Prop where
 next : σ.next ≤ σ'.next
 blk : ∀ k, k < b → σ'.blk k = σ.blk k
theorem Low.refl (b : Nat) (σ : AH O) : Low b σ σ := ⟨Nat.le_refl _, fun _ _ => rfl⟩
theorem Low.trans {b : Nat} {σ σ' σ'' : AH O} (h : Low b σ σ') (h' : Low b σ' σ'') : Low b σ σ'' := ⟨Nat.le_trans h.next h'.next, fun k hk => (h'.blk k hk).trans (h.blk k hk)⟩
theorem Low.of {b : Nat} {σ σ' : AH O} (hb : b ≤ σ.next) (h : Ext σ σ') : Low b σ σ' := ⟨h.next, fun k hk => h.blk k (by omega)⟩
theorem BldS.ext {σ σ' : AH O} {b : Nat} {l : Bs} (h : BldS σ b l) (E : Ext σ σ') : BldS σ' b l := by
 obtain ⟨q, a, h1, h2, h3, h4, h5⟩ := h
 exact ⟨q, a, by rw [E.blk _ h5]; exact h1, h2, h3.of E.next fun k hk => E.blk k (h3.lt k hk), h4, Nat.lt_of_lt_of_le h5 E.next⟩
theorem BldS.new {σ : AH O} {b : Nat} (h : σ.blk b = some (.cells true 54 [.p none, .sl .nil 0])) (hb : b < σ.next) : BldS σ b [] := ⟨none, .nil, h, .inl rfl, OwnS.nil _ _ _, by simp [SA.bk], hb⟩
theorem copy_ok {σ : AH O} {b : Nat} {l : Bs} (h : BldS σ b l) : Ok (__strings_Builder__copyCheck [.p (some (.n b, 0))] σ) fun r => r.1 = .tup [] ∧ Low b σ r.2 ∧ ∃ a, r.2.blk b = some (.cells true 54 [.p (some (.n b, 0)), .sl a l.length]) ∧ OwnS r.2 5 1 a l.length (l.map fun c => .i .u8 (c.toNat : Int)) ∧ (∀ k ∈ SA.bk a, b < k) ∧ b < r.2.next := by
 obtain ⟨q, a, h1, h2, h3, h4, h5⟩ := h
 have e1 : Nat.beq 54 54 = true := rfl
 rcases h2 with rfl | rfl
 ·refine Ok_of (r := (.tup [], σ.put b (.cells true 54 [.p (some (.n b, 0)), .sl a l.length]))) (by simp only [__strings_Builder__copyCheck, h1, e1, cond_true]) ⟨rfl, ⟨Nat.le_refl _, fun k hk => s_bn (by omega)⟩, a, s_bs, ?_, h4, h5⟩
  exact h3.of (Nat.le_refl _) fun k hk => by have := h4 k hk; exact s_bn (by omega)
 ·exact Ok_of (r := (.tup [], σ)) (by simp only [__strings_Builder__copyCheck, h1, e1, cond_true, s_beq]) ⟨rfl, Low.refl _ _, a, h1, h3, h4, h5⟩
theorem bstr_ok {σ : AH O} {b : Nat} {l s : Bs} (h : BldS σ b l) (hl : l.length + s.length ≤ 1000000000000) :
  Ok (__strings_Builder__WriteString [.p (some (.n b, 0)), .s s] σ) fun r => r.1 = .tup [.i .i64 s.length, .nifc] ∧ Low b σ r.2 ∧ BldS r.2 b (l ++ s) := by
 unfold __strings_Builder__WriteString __strings_Builder__WriteString_c
 refine Ok.cT rfl ?_
 refine Ok.to (x := some (.n b, 0)) rfl ?_
 refine Ok.to (x := s) rfl ?_
 refine Ok.step (copy_ok h) ?_
 rintro ⟨v, σ1⟩ ⟨v1, L1, a, c1, own, fr, n1⟩
 simp only at v1 L1 c1 own n1
 subst v1
 refine Ok.to (x := []) rfl ?_
 refine Ok.to (x := (.n b, 0)) rfl ?_
 refine Ok.to (x := .sl a l.length) (by simp -implicitDefEqProofs only [c1, Nat.reduceAdd, Nat.reduceMul, Nat.reduceLT, Int.reduceToNat, Int.reduceAdd, Int.reduceSub, Int.reduceMul, rsU, s_ldI, s_ldU, s_ldS, s_ldP, s_gtI, s_gtU, s_gtS, s_bleD, Nat.reduceLeDiff, decide_true, decide_false]) (Ok.to (x := (a, l.length)) rfl ?_)
 refine Ok.cT (Nat.ble_eq_true_of_le (show (l.length + s.length) * 2 ≤ _ by omega)) ?_
 have own' : OwnS (σ1.bump 1) 5 1 a l.length (l.map fun c => .i .u8 (c.toNat : Int)) := own.of (by simp) fun _ _ => rfl
 have hlt := own.lt
 refine Ok.step (app_ok (nid := σ1.next) own' (fun hm => by have := hlt _ hm; omega) (by simp) (show (s.map fun c => (.i .u8 (c.toNat : Int) : AV)).length = s.length * 1 by simp)) ?_
 rintro ⟨v, σ2⟩ ⟨a', v1, g2, g3, g4, g5⟩
 simp only at v1 g2 g3 g4
 subst v1
 refine Ok.to (x := (a', l.length + s.length)) rfl ?_
 refine Ok.to (x := (.n b, 0)) rfl ?_
 have c2 : σ2.blk b = some (.cells true 54 [.p (some (.n b, 0)), .sl a l.length]) := by rw [g4 b (by omega) (fun hm => by have := fr _ hm; omega)]; exact c1
 refine Ok.to (x := σ2.put b (.cells true 54 [.p (some (.n b, 0)), .sl a' (l.length + s.length)])) (by simp -implicitDefEqProofs only [c2, Nat.reduceAdd, Nat.reduceMul, Nat.reduceLT, Int.reduceToNat, Int.reduceAdd, Int.reduceSub, Int.reduceMul, rsU, s_ldI, s_ldU, s_ldS, s_ldP, s_gtI, s_gtU, s_gtS, s_bleD, Nat.reduceLeDiff, decide_true, decide_false]) ?_
 have n3 : σ2.next = σ1.next + 1 := by rw [g3]; rfl
 refine Ok_some.2 ⟨rfl, L1.trans ⟨by show σ1.next ≤ σ2.next; omega, fun k hk => ?_⟩, some (.n b, 0), a', ?_, .inr rfl, ?_, fun k hk => by have := g5 k hk; omega, by show b < σ2.next; omega⟩
 ·show (σ2.put b _).blk k = _
  rw [s_bn (by omega), g4 k (by omega) (fun hm => by have := fr _ hm; omega)]; rfl
 ·rw [List.length_append]; exact s_bs
 ·rw [List.length_append, List.map_append]
  exact g2.of (Nat.le_refl _) fun k hk => by have := g5 k hk; exact s_bn (by omega)
theorem bbyte_ok {σ : AH O} {b : Nat} {l : Bs} {c : UInt8} (h : BldS σ b l) (hl : l.length ≤ 1000000000000) :
  Ok (__strings_Builder__WriteByte [.p (some (.n b, 0)), .i .u8 (c.toNat : Int)] σ) fun r => r.1 = .nifc ∧ Low b σ r.2 ∧ BldS r.2 b (l ++ [c]) := by
 unfold __strings_Builder__WriteByte __strings_Builder__WriteByte_c
 refine Ok.cT rfl ?_
 refine Ok.to (x := some (.n b, 0)) rfl ?_
 refine Ok.to (x := (c.toNat : Int)) rfl ?_
 refine Ok.step (copy_ok h) ?_
 rintro ⟨v, σ1⟩ ⟨v1, L1, a, c1, own, fr, n1⟩
 simp only at v1 L1 c1 own n1
 subst v1
 refine Ok.to (x := []) rfl ?_
 refine Ok.to (x := (.n b, 0)) rfl ?_
 refine Ok.to (x := .sl a l.length) (by simp -implicitDefEqProofs only [c1, Nat.reduceAdd, Nat.reduceMul, Nat.reduceLT, Int.reduceToNat, Int.reduceAdd, Int.reduceSub, Int.reduceMul, rsU, s_ldI, s_ldU, s_ldS, s_ldP, s_gtI, s_gtU, s_gtS, s_bleD, Nat.reduceLeDiff, decide_true, decide_false]) (Ok.to (x := (a, l.length)) rfl ?_)
 refine Ok.to (x := [.i .u8 (c.toNat : Int)]) rdNew1 ?_
 refine Ok.cT (Nat.ble_eq_true_of_le (show (l.length + 1) * 2 ≤ _ by omega)) ?_
 refine Ok.step (grow1 own) ?_
 rintro ⟨v, σ2⟩ ⟨a', v1, g2, g3, g4⟩
 simp only at v1 g2 g3 g4
 subst v1
 refine Ok.to (x := (a', l.length + 1)) rfl ?_
 refine Ok.to (x := (.n b, 0)) rfl ?_
 have n3 := g3.next
 have c2 : σ2.blk b = some (.cells true 54 [.p (some (.n b, 0)), .sl a l.length]) := by rw [g3.blk b (by omega) (fun hm => by have := fr _ hm; omega)]; exact c1
 refine Ok.to (x := σ2.put b (.cells true 54 [.p (some (.n b, 0)), .sl a' (l.length + 1)])) (by simp -implicitDefEqProofs only [c2, Nat.reduceAdd, Nat.reduceMul, Nat.reduceLT, Int.reduceToNat, Int.reduceAdd, Int.reduceSub, Int.reduceMul, rsU, s_ldI, s_ldU, s_ldS, s_ldP, s_gtI, s_gtU, s_gtS, s_bleD, Nat.reduceLeDiff, decide_true, decide_false]) ?_
 refine Ok_some.2 ⟨rfl, L1.trans ⟨by show σ1.next ≤ σ2.next; omega, fun k hk => ?_⟩, some (.n b, 0), a', ?_, .inr rfl, ?_, fun k hk => by have := g4 k hk; omega, by show b < σ2.next; omega⟩
 ·show (σ2.put b _).blk k = _
  rw [s_bn (by omega), g3.blk k (by omega) (fun hm => by have := fr _ hm; omega)]
 ·rw [List.length_append]; exact s_bs
 ·rw [List.length_append, List.map_append]
  exact g2.of (Nat.le_refl _) fun k hk => by have := g4 k hk; exact s_bn (by omega)
theorem asB2U (l : Bs) : asB2 (l.map fun c => .i .u8 (c.toNat : Int)) = some l := asB2_map l
theorem bstring_ok {σ : AH O} {b : Nat} {l : Bs} (h : BldS σ b l) (h0 : l ≠ []) : Ok (__strings_Builder__String [.p (some (.n b, 0))] σ) fun r => r.1 = .s l ∧ Low b σ r.2 := by
 obtain ⟨q, a, h1, h2, h3, h4, h5⟩ := h
 have hl : l.length ≠ 0 := fun e => h0 (List.eq_nil_of_length_eq_zero e)
 obtain ⟨k, rfl, c1, n1⟩ := h3.loc hl
 have hk := h4 k (by simp [SA.bk])
 have e1 : (Nat.beq 54 54 && !Nat.beq l.length 0 && !Nat.beq k b) = true := by
  have e2 : Nat.beq l.length 0 = false := Bool.eq_false_iff.2 fun h => hl (Nat.eq_of_beq_eq_true h)
  have e3 : Nat.beq k b = false := Bool.eq_false_iff.2 fun h => by have := Nat.eq_of_beq_eq_true h; omega
  rw [e2, e3]; rfl
 have e2 : (Nat.beq 5 5 && Nat.ble (0 + l.length) (l.map fun c => (.i .u8 (c.toNat : Int) : AV)).length) = true := by
  rw [List.length_map, Nat.zero_add, Nat.ble_eq_true_of_le (Nat.le_refl _)]; rfl
 have e3 : ((l.map fun c => (.i .u8 (c.toNat : Int) : AV)).drop 0).take l.length = l.map fun c => (.i .u8 (c.toNat : Int) : AV) := by rw [List.drop_zero, List.take_of_length_le (by simp)]
 refine Ok_of (r := (.s l, σ.kill k)) (by simp only [__strings_Builder__String, h1, e1, cond_true, c1, e2, e3, asB2U, Option.bind_some]) ⟨rfl, Nat.le_refl _, fun j hj => ?_⟩
 show (σ.kill k).blk j = _
 rw [kill_blk, if_neg (by omega)]
end Go.Abs.Tryd
namespace Go.Abs.Tryd
open Go Go.Abs
variable {O : Type}
theorem nums_few {l : List Int} (hr : ∀ n ∈ l, I64 n) : (joinS 32 (l.map numT)).length ≤ l.length * 22 := by
 have := joinS_few 32 (m := 21) (ws := l.map numT) fun w hw => by
  obtain ⟨n, hn, rfl⟩ := List.mem_map.1 hw
  exact numT_few (hr n hn)
 simpa using this
theorem digs_ne (u : Nat) : digs u ≠ [] := by
 unfold digs; split <;> simp
theorem numT_ne (n : Int) : numT n ≠ [] := by
 unfold numT; split
 ·simp
 ·exact digs_ne _
theorem gdlist_ok {σ : AH O} {c : SA} {l : List Int} (hc : Ints .i64 c l) (hr : ∀ n ∈ l, I64 n) (h0 : l ≠ []) (hl : l.length ≤ 1200) :
  Ok (digits_List [.sl c l.length] σ) fun r => r.1 = .s (joinS 32 (l.map numT)) ∧ Ext σ r.2 := by
 unfold digits_List digits_List_c
 refine Ok.cT rfl ?_
 refine Ok.to (x := (c, l.length)) rfl ?_
 have B0 : BldS ((σ.bump 1).put σ.next (.cells true 54 [.p none, .sl .nil 0])) σ.next [] := BldS.new s_bs (by simp)
 have L0 : Low σ.next σ ((σ.bump 1).put σ.next (.cells true 54 [.p none, .sl .nil 0])) := ⟨by simp, fun k hk => by rw [s_bn (by omega)]; rfl⟩
 refine Ok.step (Q := fun r => r.1 = [] ∧ Low σ.next σ r.2 ∧ BldS r.2 σ.next (joinS 32 (l.map numT))) ?_ ?_
 ·refine Ok.count l.length (fun k q => ∃ σ', q = ([.i .i64 (k : Int)], σ') ∧ Low σ.next σ σ' ∧ BldS σ' σ.next (joinS 32 ((l.take k).map numT))) ?_ ?_ ⟨_, rfl, L0, by simpa [joinS] using B0⟩
  ·rintro k _ hk ⟨σ', rfl, L, B⟩
   have hx : l[k]? = some l[k] := List.getElem?_eq_getElem hk
   have hm := hr _ (List.getElem_mem hk)
   have htk : l.take (k + 1) = l.take k ++ [l[k]] := by rw [List.take_add_one, hx]; rfl
   have few := nums_few (l := l.take k) fun n hn => hr n (List.mem_of_mem_take hn)
   have ltk : (l.take k).length = k := by rw [List.length_take]; omega
   have ne : k ≠ 0 → (l.take k).map numT ≠ [] := fun h e => h (by have := congrArg List.length e; rw [List.length_map, ltk] at this; exact this)
   have z0 : k = 0 → joinS 32 ((l.take k).map numT) = [] := fun h => by subst h; rfl
   generalize l[k] = x at *
   obtain ⟨bb, oo, r1, ld⟩ := ints_ld hc hx
   have ld := ld O σ'
   have hfx := numT_few hm
   have dk : decide ((k : Int) < (l.length : Int)) = true := decide_eq_true (by omega)
   have d0 : decide ((0 : Int) ≤ (k : Int)) = true := decide_eq_true (by omega)
   have e1 : IntKind.i64.wrap ((k : Int) + 1) = ((k + 1 : Nat) : Int) := by rw [i64_id (by omega) (by omega)]; omega
   refine Ok.to (x := (k : Int)) rfl ?_
   refine Ok.cT dk ?_
   refine Ok.cT (by rw [d0, dk]; rfl) ?_
   refine Ok.to (x := (bb, oo)) r1 ?_
   refine Ok.to (x := .i .i64 x) (by rw [Int.toNat_natCast, Nat.mul_one]; exact ld) (Ok.to (x := x) rfl ?_)
   generalize hj : joinS 32 ((l.take k).map numT) = j at *
   refine Ok.step (Q := fun r => r.1 = [] ∧ Low σ.next σ r.2 ∧ BldS r.2 σ.next (if k = 0 then [] else j ++ [32])) ?_ ?_
   ·by_cases h : k = 0
    ·refine Ok.cF (decide_eq_false (by omega)) (Ok_some.2 ⟨rfl, L, ?_⟩)
     rw [if_pos h, ← z0 h]; exact B
    ·refine Ok.cT (decide_eq_true (by omega)) ?_
     refine Ok.step (bbyte_ok (c := 32) B (by omega)) ?_
     rintro ⟨v, σ3⟩ ⟨_, L3, B3⟩
     exact Ok_some.2 ⟨rfl, L.trans L3, by rw [if_neg h]; exact B3⟩
   ·rintro ⟨v, σ3⟩ ⟨v1, L3, B3⟩
    simp only at v1 L3 B3
    subst v1
    refine Ok.step (gText_ok hm) ?_
    rintro ⟨v, σ4⟩ ⟨v1, E4⟩
    simp only at v1 E4
    subst v1
    refine Ok.to (x := numT x) rfl ?_
    have hl3 : (if k = 0 then [] else j ++ [(32 : UInt8)]).length ≤ 100000 := by split <;> simp <;> omega
    refine Ok.step (bstr_ok (B3.ext E4) (s := numT x) (by omega)) ?_
    rintro ⟨v, σ5⟩ ⟨v1, L5, B5⟩
    simp only at v1 L5 B5
    subst v1
    refine Ok.to (x := [.i .i64 (numT x).length, .nifc]) rfl ?_
    refine Ok.to (x := ((numT x).length : Int)) rfl ?_
    refine Ok_some.2 ⟨σ5, by rw [e1], (L3.trans (Low.of L3.next E4)).trans L5, ?_⟩
    have : joinS 32 ((l.take (k + 1)).map numT) = (if k = 0 then [] else j ++ [32]) ++ numT x := by
     rw [htk, List.map_append]
     by_cases h : k = 0
     ·subst h; simp [joinS]
     ·rw [if_neg h, List.map_singleton, joinS_snoc 32 _ (ne h), hj]; simp
    rw [this]; exact B5
  ·rintro _ ⟨σ', rfl, L, B⟩
   refine Ok.to (x := (l.length : Int)) rfl ?_
   refine Ok.cF (decide_eq_false (by omega)) (Ok_some.2 ⟨rfl, L, ?_⟩)
   rw [List.take_length] at B; exact B
 rintro ⟨v, σ2⟩ ⟨v1, L, B⟩
 simp only at v1 L B
 subst v1
 have ne : joinS 32 (l.map numT) ≠ [] := by
  cases l with
  | nil => exact absurd rfl h0
  | cons x l => rw [List.map_cons, joinS_add]; simp [numT_ne]
 refine Ok.step (bstring_ok B ne) ?_
 rintro ⟨v, σ3⟩ ⟨v1, L3⟩
 simp only at v1 L3
 subst v1
 refine Ok.to (x := joinS 32 (l.map numT)) rfl ?_
 exact Ok_some.2 ⟨rfl, (L.trans L3).next, fun k hk => (L.trans L3).blk k hk⟩
theorem gnumbers_ok {σ : AH O} {w : Bs} {c : SA} {l : List Int} (hc : Ints .i64 c l) (hr : ∀ n ∈ l, I64 n) (hl : l.length ≤ 1200) (hw : w.length ≤ 100) :
  Ok (lines_numbers [.s w, .sl c l.length] σ) fun r => r.1 = .s (lnumsT w l) ∧ Ext σ r.2 := by
 unfold lines_numbers lines_numbers_c
 refine Ok.cT rfl ?_
 refine Ok.to (x := w) rfl ?_
 refine Ok.to (x := (c, l.length)) rfl ?_
 by_cases h0 : l = []
 ·subst h0
  refine Ok.cT rfl (Ok_some.2 ⟨rfl, Ext.refl _⟩)
 ·have hn : l.length ≠ 0 := fun e => h0 (List.eq_nil_of_length_eq_zero e)
  refine Ok.cF (by simpa using h0) ?_
  refine Ok.cT (Nat.ble_eq_true_of_le (show w.length + 1 ≤ _ by omega)) ?_
  refine Ok.step (gdlist_ok hc hr h0 hl) ?_
  rintro ⟨v, σ2⟩ ⟨v1, E⟩
  simp only at v1 E
  subst v1
  have few := nums_few hr
  refine Ok.to (x := joinS 32 (l.map numT)) rfl ?_
  refine Ok.cT (Nat.ble_eq_true_of_le (by simp; omega)) ?_
  refine Ok_some.2 ⟨?_, E⟩
  have : lnumsT w l = w ++ [32] ++ joinS 32 (l.map numT) := by
   unfold lnumsT
   rw [joinS_cons 32 w (by simpa using h0)]; simp
  rw [this]
theorem lnumsT_few {w : Bs} {l : List Int} (hr : ∀ n ∈ l, I64 n) (hl : l.length ≤ 1200) (hw : w.length ≤ 21) : (lnumsT w l).length ≤ 30000 := by
 have := joinS_few 32 (m := 21) (ws := w :: l.map numT) fun u hu => by
  rcases List.mem_cons.1 hu with rfl | hu
  ·exact hw
  ·obtain ⟨n, hn, rfl⟩ := List.mem_map.1 hu
   exact numT_few (hr n hn)
 simp only [List.length_cons, List.length_map] at this
 unfold lnumsT; omega
end Go.Abs.Tryd
