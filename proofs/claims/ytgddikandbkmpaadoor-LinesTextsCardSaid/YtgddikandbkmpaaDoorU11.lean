/-
  A node's line is read, the document's way: haymowref46.readNode. No conditions.
-/
import Derived.Test.YtgddikandbkmpaaDoorU6
import Derived.Test.YtgddikandbkmpaaDoorU1
set_option linter.unusedVariables false
set_option linter.unusedSimpArgs false
set_option linter.constructorNameAsVariable false
set_option linter.unusedSimpArgs false
set_option linter.unusedVariables false
set_option maxHeartbeats 2000000
namespace Go.Abs.Tryd
open Go Go.Abs
variable {O : Type}
end Go.Abs.Tryd
namespace Go.Abs.Tryd
open Go Go.Abs
variable {O : Type}
theorem grow1E {σ σ1 : AH O} {el : TypeId} {a : SA} {n : Nat} {cs : List AV} {v : AV} (ho : OwnS σ el 1 a n cs) (E : Ext (σ.bump 2) σ1) :
  Ok ((σ1.put σ.next (.cells true el [v])).appSl (σ.next + 1) el 1 a n 1 [v]) fun r => ∃ a', r.1 = .sl a' (n + 1) ∧ OwnS r.2 el 1 a' (n + 1) (cs ++ [v]) ∧ Chg (SA.bk a) σ r.2 ∧ ∀ b ∈ SA.bk a', σ.next ≤ b ∧ b < r.2.next := by
 have hlt := ho.lt
 have n0 : σ.next + 2 ≤ σ1.next := by simpa using E.next
 generalize hσ : σ1.put σ.next (.cells true el [v]) = σ2
 have n1 : σ2.next = σ1.next := by rw [← hσ]; rfl
 have b1 : ∀ b, b < σ.next → σ2.blk b = σ.blk b := fun b hb => by rw [← hσ, s_bn (by omega), E.blk b (by simp; omega)]; rfl
 clear hσ
 have ho1 : OwnS σ2 el 1 a n cs := ho.of (by omega) fun b hb => b1 b (hlt b hb)
 refine (app_ok (nid := σ.next + 1) ho1 (fun hm => by have := hlt _ hm; omega) (by omega) (show ([v] : List AV).length = 1 * 1 from rfl)).mono fun r ⟨a', g1, g2, g3, g4, g5⟩ => ⟨a', g1, g2, ⟨by omega, fun b hb hm => (g4 b (by omega) hm).trans (b1 b hb)⟩, fun b hb => by have := g5 b hb; omega⟩
theorem gHexI {σ : AH O} {x : Int} (h : U64 x) : Ok (digits_Hex [.i .u64 x] σ) fun r => r.1 = .s (hexI x) ∧ Ext σ r.2 := by
 obtain ⟨h0, h1⟩ := h
 have := gHex_ok (σ := σ) (w := x.toNat) (by omega)
 rwa [Int.toNat_of_nonneg h0] at this
theorem rHexI {σ : AH O} {x : Int} (h : U64 x) : Ok (haymowref03_Hex [.i .u64 x] σ) fun r => r.1 = .s (hexI x) ∧ Ext σ r.2 := by
 obtain ⟨h0, h1⟩ := h
 have := rHex_ok (σ := σ) (w := x.toNat) (by omega)
 rwa [Int.toNat_of_nonneg h0] at this
theorem hexN_len : ∀ k w, (hexN k w).length = k
 | 0, _ => rfl
 | k + 1, w => by rw [hexN, List.length_append, hexN_len k]; rfl
theorem hexI_few {x : Int} : (hexI x).length ≤ 21 := by unfold hexI hexT; rw [hexN_len]; omega
theorem XLgp_ok {σ0 σ : AH O} {c a : SA} {l : List Int} {ws0 : List Bs} (hc : Ints .i64 c l) (hr : ∀ n ∈ l, I64 n) (hl : l.length ≤ 1200) (hw : ws0.length ≤ 100000) (own : OwnS σ 9 1 a ws0.length (ws0.map AV.s)) (E0 : Ext σ0 σ) (fr : ∀ b ∈ SA.bk a, σ0.next ≤ b) :
  Ok (loopF (S := List AV × AH O) (T := List AV × AH O) (lines_node_L1 (c, l.length) digits_Text) ([.sl a ws0.length, .i .i64 0], σ)) fun r => ∃ a', r.1 = [.sl a' (ws0 ++ l.map numT).length] ∧ OwnS r.2 9 1 a' (ws0 ++ l.map numT).length ((ws0 ++ l.map numT).map AV.s) ∧ Ext σ0 r.2 ∧ ∀ b ∈ SA.bk a', σ0.next ≤ b := by
 refine Ok.count l.length (fun k s => ∃ ws a' σ', ws = ws0 ++ (l.take k).map numT ∧ s = ([.sl a' ws.length, .i .i64 (k : Int)], σ') ∧ OwnS σ' 9 1 a' ws.length (ws.map AV.s) ∧ Ext σ0 σ' ∧ (∀ b ∈ SA.bk a', σ0.next ≤ b)) ?_ ?_ ⟨ws0, a, σ, by simp, rfl, own, E0, fr⟩
 ·rintro k _ hk ⟨ws, a', σ', hws, rfl, own, E, fr⟩
  have hx : l[k]? = some l[k] := List.getElem?_eq_getElem hk
  have hm := hr _ (List.getElem_mem hk)
  have htk : l.take (k + 1) = l.take k ++ [l[k]] := by rw [List.take_add_one, hx]; rfl
  generalize l[k] = x at *
  obtain ⟨bb, oo, r1, ld⟩ := ints_ld hc hx
  have ld := fun σ => ld O σ
  have dk : decide ((k : Int) < (l.length : Int)) = true := decide_eq_true (by omega)
  have d0 : decide ((0 : Int) ≤ (k : Int)) = true := decide_eq_true (by omega)
  have t3 : (true && true) = true := rfl
  have k1 : k * 1 = k := Nat.mul_one k
  have e1 : IntKind.i64.wrap ((k : Int) + 1) = ((k + 1 : Nat) : Int) := by rw [i64_id (by omega) (by omega)]; omega
  have hwl : ws.length = ws0.length + k := by rw [hws]; simp [List.length_take]; omega
  have bl : Nat.ble ((ws.length + 1) * 17) 35184372088832 = true := Nat.ble_eq_true_of_le (by omega)
  have bl' : decide ((ws.length + 1) * 17 ≤ 35184372088832) = true := decide_eq_true (by omega)
  generalize hn : ws.length = n at *
  simp -implicitDefEqProofs only [lines_node_L1, dk, d0, t3, r1, Int.toNat_natCast, k1, ld, Nat.reduceAdd, Nat.reduceMul, Nat.reduceLT, Int.reduceToNat, Int.reduceAdd, Int.reduceSub, Int.reduceMul, rsU, s_ldI, s_ldU, s_ldS, s_ldP, s_gtI, s_gtU, s_gtS, s_bleD, Nat.reduceLeDiff, decide_true, decide_false]
  refine Ok.step (gText_ok hm) ?_
  rintro ⟨v, σ1⟩ ⟨v1, E1⟩
  simp only at v1 E1
  subst v1
  simp -implicitDefEqProofs only [Nat.reduceAdd, Nat.reduceMul, Nat.reduceLT, Int.reduceToNat, Int.reduceAdd, Int.reduceSub, Int.reduceMul, rsU, s_ldI, s_ldU, s_ldS, s_ldP, s_gtI, s_gtU, s_gtS, s_bleD, Nat.reduceLeDiff, decide_true, decide_false]
  simp -implicitDefEqProofs only [rdNew1, bl, bl', Nat.reduceAdd, Nat.reduceMul, Nat.reduceLT, Int.reduceToNat, Int.reduceAdd, Int.reduceSub, Int.reduceMul, rsU, s_ldI, s_ldU, s_ldS, s_ldP, s_gtI, s_gtU, s_gtS, s_bleD, Nat.reduceLeDiff, decide_true, decide_false]
  refine Ok.step (grow1E own E1) ?_
  rintro ⟨v, σ2⟩ ⟨a2, g1, g2, g3, g4⟩
  simp only at g1 g2 g3 g4
  subst g1
  simp -implicitDefEqProofs only [e1, Nat.reduceAdd, Nat.reduceMul, Nat.reduceLT, Int.reduceToNat, Int.reduceAdd, Int.reduceSub, Int.reduceMul, rsU, s_ldI, s_ldU, s_ldS, s_ldP, s_gtI, s_gtU, s_gtS, s_bleD, Nat.reduceLeDiff, decide_true, decide_false]
  exact Ok_some.2 ⟨ws ++ [numT x], a2, σ2, by rw [htk, hws]; simp, by simp [hn], by simpa [hn] using g2, Chg.new E fr g3, fun b hb => by have := g4 b hb; have := E.next; omega⟩
 ·rintro _ ⟨ws, a', σ', hws, rfl, own, E, fr⟩
  have dk : decide ((l.length : Int) < (l.length : Int)) = false := decide_eq_false (by omega)
  simp -implicitDefEqProofs only [lines_node_L1, dk, Nat.reduceAdd, Nat.reduceMul, Nat.reduceLT, Int.reduceToNat, Int.reduceAdd, Int.reduceSub, Int.reduceMul, rsU, s_ldI, s_ldU, s_ldS, s_ldP, s_gtI, s_gtU, s_gtS, s_bleD, Nat.reduceLeDiff, decide_true, decide_false]
  rw [List.take_length] at hws
  subst hws
  exact Ok_some.2 ⟨a', rfl, own, E, fr⟩
theorem XLgr_ok {σ0 σ : AH O} {c a : SA} {l : List Int} {ws0 : List Bs} (hc : Ints .u64 c l) (hr : ∀ n ∈ l, U64 n) (hl : l.length ≤ 1200) (hw : ws0.length ≤ 100000) (own : OwnS σ 9 1 a ws0.length (ws0.map AV.s)) (E0 : Ext σ0 σ) (fr : ∀ b ∈ SA.bk a, σ0.next ≤ b) :
  Ok (loopF (S := List AV × AH O) (T := List AV × AH O) (lines_node_L2 (c, l.length) digits_Hex) ([.sl a ws0.length, .i .i64 0], σ)) fun r => ∃ a', r.1 = [.sl a' (ws0 ++ l.map hexI).length] ∧ OwnS r.2 9 1 a' (ws0 ++ l.map hexI).length ((ws0 ++ l.map hexI).map AV.s) ∧ Ext σ0 r.2 ∧ ∀ b ∈ SA.bk a', σ0.next ≤ b := by
 refine Ok.count l.length (fun k s => ∃ ws a' σ', ws = ws0 ++ (l.take k).map hexI ∧ s = ([.sl a' ws.length, .i .i64 (k : Int)], σ') ∧ OwnS σ' 9 1 a' ws.length (ws.map AV.s) ∧ Ext σ0 σ' ∧ (∀ b ∈ SA.bk a', σ0.next ≤ b)) ?_ ?_ ⟨ws0, a, σ, by simp, rfl, own, E0, fr⟩
 ·rintro k _ hk ⟨ws, a', σ', hws, rfl, own, E, fr⟩
  have hx : l[k]? = some l[k] := List.getElem?_eq_getElem hk
  have hm := hr _ (List.getElem_mem hk)
  have htk : l.take (k + 1) = l.take k ++ [l[k]] := by rw [List.take_add_one, hx]; rfl
  generalize l[k] = x at *
  obtain ⟨bb, oo, r1, ld⟩ := ints_ld hc hx
  have ld := fun σ => ld O σ
  have dk : decide ((k : Int) < (l.length : Int)) = true := decide_eq_true (by omega)
  have d0 : decide ((0 : Int) ≤ (k : Int)) = true := decide_eq_true (by omega)
  have t3 : (true && true) = true := rfl
  have k1 : k * 1 = k := Nat.mul_one k
  have e1 : IntKind.i64.wrap ((k : Int) + 1) = ((k + 1 : Nat) : Int) := by rw [i64_id (by omega) (by omega)]; omega
  have hwl : ws.length = ws0.length + k := by rw [hws]; simp [List.length_take]; omega
  have bl : Nat.ble ((ws.length + 1) * 17) 35184372088832 = true := Nat.ble_eq_true_of_le (by omega)
  have bl' : decide ((ws.length + 1) * 17 ≤ 35184372088832) = true := decide_eq_true (by omega)
  generalize hn : ws.length = n at *
  simp -implicitDefEqProofs only [lines_node_L2, dk, d0, t3, r1, Int.toNat_natCast, k1, ld, Nat.reduceAdd, Nat.reduceMul, Nat.reduceLT, Int.reduceToNat, Int.reduceAdd, Int.reduceSub, Int.reduceMul, rsU, s_ldI, s_ldU, s_ldS, s_ldP, s_gtI, s_gtU, s_gtS, s_bleD, Nat.reduceLeDiff, decide_true, decide_false]
  refine Ok.step (gHexI hm) ?_
  rintro ⟨v, σ1⟩ ⟨v1, E1⟩
  simp only at v1 E1
  subst v1
  simp -implicitDefEqProofs only [Nat.reduceAdd, Nat.reduceMul, Nat.reduceLT, Int.reduceToNat, Int.reduceAdd, Int.reduceSub, Int.reduceMul, rsU, s_ldI, s_ldU, s_ldS, s_ldP, s_gtI, s_gtU, s_gtS, s_bleD, Nat.reduceLeDiff, decide_true, decide_false]
  simp -implicitDefEqProofs only [rdNew1, bl, bl', Nat.reduceAdd, Nat.reduceMul, Nat.reduceLT, Int.reduceToNat, Int.reduceAdd, Int.reduceSub, Int.reduceMul, rsU, s_ldI, s_ldU, s_ldS, s_ldP, s_gtI, s_gtU, s_gtS, s_bleD, Nat.reduceLeDiff, decide_true, decide_false]
  refine Ok.step (grow1E own E1) ?_
  rintro ⟨v, σ2⟩ ⟨a2, g1, g2, g3, g4⟩
  simp only at g1 g2 g3 g4
  subst g1
  simp -implicitDefEqProofs only [e1, Nat.reduceAdd, Nat.reduceMul, Nat.reduceLT, Int.reduceToNat, Int.reduceAdd, Int.reduceSub, Int.reduceMul, rsU, s_ldI, s_ldU, s_ldS, s_ldP, s_gtI, s_gtU, s_gtS, s_bleD, Nat.reduceLeDiff, decide_true, decide_false]
  exact Ok_some.2 ⟨ws ++ [hexI x], a2, σ2, by rw [htk, hws]; simp, by simp [hn], by simpa [hn] using g2, Chg.new E fr g3, fun b hb => by have := g4 b hb; have := E.next; omega⟩
 ·rintro _ ⟨ws, a', σ', hws, rfl, own, E, fr⟩
  have dk : decide ((l.length : Int) < (l.length : Int)) = false := decide_eq_false (by omega)
  simp -implicitDefEqProofs only [lines_node_L2, dk, Nat.reduceAdd, Nat.reduceMul, Nat.reduceLT, Int.reduceToNat, Int.reduceAdd, Int.reduceSub, Int.reduceMul, rsU, s_ldI, s_ldU, s_ldS, s_ldP, s_gtI, s_gtU, s_gtS, s_bleD, Nat.reduceLeDiff, decide_true, decide_false]
  rw [List.take_length] at hws
  subst hws
  exact Ok_some.2 ⟨a', rfl, own, E, fr⟩
theorem XLrp_ok {σ h : AH O} {B : Nat} (hB : h.next = B) {p r s1 g : Int} {lg : Bool} {c e : SA} {l : List Int} {m : Nat} (b0 : σ.blk B = some (.cells true 50 [.i .i64 p, .i .i64 r, .i .i64 s1, .i .i64 g, .b lg, .sl c l.length, .sl e m])) (hlt : B < σ.next) (hc : Ints .i64 c l) (hr : ∀ n ∈ l, I64 n) (hl : l.length ≤ 1200) {s : Bs} (hs : s.length ≤ 100000000000) :
  Ok (loopF (S := List AV × AH O) (T := List AV × AH O) (haymowref46_node_L1 h haymowref03_Text) ([.s s, .i .i64 0], σ)) fun r => r.1 = [.s (s ++ (l.map numT).flatMap (32 :: ·))] ∧ Ext σ r.2 := by
 refine Ok.count l.length (fun k q => ∃ t σ', t = s ++ ((l.take k).map numT).flatMap (32 :: ·) ∧ t.length ≤ s.length + 22 * k ∧ q = ([.s t, .i .i64 (k : Int)], σ') ∧ Ext σ σ') ?_ ?_ ⟨s, σ, by simp, by omega, rfl, Ext.refl _⟩
 ·rintro k _ hk ⟨t, σ', ht, tl, rfl, E⟩
  have hx : l[k]? = some l[k] := List.getElem?_eq_getElem hk
  have hm := hr _ (List.getElem_mem hk)
  have htk : l.take (k + 1) = l.take k ++ [l[k]] := by rw [List.take_add_one, hx]; rfl
  generalize l[k] = x at *
  obtain ⟨bb, oo, r1, ld⟩ := ints_ld hc hx
  have ld := fun σ => ld O σ
  have c0 : σ'.blk B = some (.cells true 50 [.i .i64 p, .i .i64 r, .i .i64 s1, .i .i64 g, .b lg, .sl c l.length, .sl e m]) := by rw [E.blk _ hlt]; exact b0
  have dk : decide ((k : Int) < (l.length : Int)) = true := decide_eq_true (by omega)
  have d0 : decide ((0 : Int) ≤ (k : Int)) = true := decide_eq_true (by omega)
  have t3 : (true && true) = true := rfl
  have k1 : k * 1 = k := Nat.mul_one k
  have e1 : IntKind.i64.wrap ((k : Int) + 1) = ((k + 1 : Nat) : Int) := by rw [i64_id (by omega) (by omega)]; omega
  have hfx : (numT x).length ≤ 21 := numT_few hm
  have bl1 : decide (t.length ≤ 9223372036854775806) = true := decide_eq_true (by omega)
  have bl2 : decide ((t ++ [32]).length + (numT x).length ≤ 9223372036854775807) = true := decide_eq_true (by simp; omega)
  simp -implicitDefEqProofs only [haymowref46_node_L1, hB, c0, dk, d0, t3, r1, Int.toNat_natCast, k1, ld, bl1, Nat.reduceAdd, Nat.reduceMul, Nat.reduceLT, Int.reduceToNat, Int.reduceAdd, Int.reduceSub, Int.reduceMul, rsU, s_ldI, s_ldU, s_ldS, s_ldP, s_gtI, s_gtU, s_gtS, s_bleD, Nat.reduceLeDiff, decide_true, decide_false]
  refine Ok.step (rText_ok hm) ?_
  rintro ⟨v, σ1⟩ ⟨v1, E1⟩
  simp only at v1 E1
  subst v1
  simp -implicitDefEqProofs only [bl2, e1, Nat.reduceAdd, Nat.reduceMul, Nat.reduceLT, Int.reduceToNat, Int.reduceAdd, Int.reduceSub, Int.reduceMul, rsU, s_ldI, s_ldU, s_ldS, s_ldP, s_gtI, s_gtU, s_gtS, s_bleD, Nat.reduceLeDiff, decide_true, decide_false]
  exact Ok_some.2 ⟨t ++ [32] ++ numT x, σ1, by rw [htk, ht]; simp, by simp; omega, rfl, E.trans E1⟩
 ·rintro _ ⟨t, σ', ht, tl, rfl, E⟩
  have c0 : σ'.blk B = some (.cells true 50 [.i .i64 p, .i .i64 r, .i .i64 s1, .i .i64 g, .b lg, .sl c l.length, .sl e m]) := by rw [E.blk _ hlt]; exact b0
  have dk : decide ((l.length : Int) < (l.length : Int)) = false := decide_eq_false (by omega)
  simp -implicitDefEqProofs only [haymowref46_node_L1, hB, c0, dk, Nat.reduceAdd, Nat.reduceMul, Nat.reduceLT, Int.reduceToNat, Int.reduceAdd, Int.reduceSub, Int.reduceMul, rsU, s_ldI, s_ldU, s_ldS, s_ldP, s_gtI, s_gtU, s_gtS, s_bleD, Nat.reduceLeDiff, decide_true, decide_false]
  rw [List.take_length] at ht
  subst ht
  exact Ok_some.2 ⟨rfl, E⟩
theorem XLrr_ok {σ h : AH O} {B : Nat} (hB : h.next = B) {p r s1 g : Int} {lg : Bool} {c e : SA} {l : List Int} {m : Nat} (b0 : σ.blk B = some (.cells true 50 [.i .i64 p, .i .i64 r, .i .i64 s1, .i .i64 g, .b lg, .sl e m, .sl c l.length])) (hlt : B < σ.next) (hc : Ints .u64 c l) (hr : ∀ n ∈ l, U64 n) (hl : l.length ≤ 1200) {s : Bs} (hs : s.length ≤ 100000000000) :
  Ok (loopF (S := List AV × AH O) (T := List AV × AH O) (haymowref46_node_L2 h haymowref03_Hex) ([.s s, .i .i64 0], σ)) fun r => r.1 = [.s (s ++ (l.map hexI).flatMap (32 :: ·))] ∧ Ext σ r.2 := by
 refine Ok.count l.length (fun k q => ∃ t σ', t = s ++ ((l.take k).map hexI).flatMap (32 :: ·) ∧ t.length ≤ s.length + 22 * k ∧ q = ([.s t, .i .i64 (k : Int)], σ') ∧ Ext σ σ') ?_ ?_ ⟨s, σ, by simp, by omega, rfl, Ext.refl _⟩
 ·rintro k _ hk ⟨t, σ', ht, tl, rfl, E⟩
  have hx : l[k]? = some l[k] := List.getElem?_eq_getElem hk
  have hm := hr _ (List.getElem_mem hk)
  have htk : l.take (k + 1) = l.take k ++ [l[k]] := by rw [List.take_add_one, hx]; rfl
  generalize l[k] = x at *
  obtain ⟨bb, oo, r1, ld⟩ := ints_ld hc hx
  have ld := fun σ => ld O σ
  have c0 : σ'.blk B = some (.cells true 50 [.i .i64 p, .i .i64 r, .i .i64 s1, .i .i64 g, .b lg, .sl e m, .sl c l.length]) := by rw [E.blk _ hlt]; exact b0
  have dk : decide ((k : Int) < (l.length : Int)) = true := decide_eq_true (by omega)
  have d0 : decide ((0 : Int) ≤ (k : Int)) = true := decide_eq_true (by omega)
  have t3 : (true && true) = true := rfl
  have k1 : k * 1 = k := Nat.mul_one k
  have e1 : IntKind.i64.wrap ((k : Int) + 1) = ((k + 1 : Nat) : Int) := by rw [i64_id (by omega) (by omega)]; omega
  have hfx : (hexI x).length ≤ 21 := hexI_few
  have bl1 : decide (t.length ≤ 9223372036854775806) = true := decide_eq_true (by omega)
  have bl2 : decide ((t ++ [32]).length + (hexI x).length ≤ 9223372036854775807) = true := decide_eq_true (by simp; omega)
  simp -implicitDefEqProofs only [haymowref46_node_L2, hB, c0, dk, d0, t3, r1, Int.toNat_natCast, k1, ld, bl1, Nat.reduceAdd, Nat.reduceMul, Nat.reduceLT, Int.reduceToNat, Int.reduceAdd, Int.reduceSub, Int.reduceMul, rsU, s_ldI, s_ldU, s_ldS, s_ldP, s_gtI, s_gtU, s_gtS, s_bleD, Nat.reduceLeDiff, decide_true, decide_false]
  refine Ok.step (rHexI hm) ?_
  rintro ⟨v, σ1⟩ ⟨v1, E1⟩
  simp only at v1 E1
  subst v1
  simp -implicitDefEqProofs only [bl2, e1, Nat.reduceAdd, Nat.reduceMul, Nat.reduceLT, Int.reduceToNat, Int.reduceAdd, Int.reduceSub, Int.reduceMul, rsU, s_ldI, s_ldU, s_ldS, s_ldP, s_gtI, s_gtU, s_gtS, s_bleD, Nat.reduceLeDiff, decide_true, decide_false]
  exact Ok_some.2 ⟨t ++ [32] ++ hexI x, σ1, by rw [htk, ht]; simp, by simp; omega, rfl, E.trans E1⟩
 ·rintro _ ⟨t, σ', ht, tl, rfl, E⟩
  have c0 : σ'.blk B = some (.cells true 50 [.i .i64 p, .i .i64 r, .i .i64 s1, .i .i64 g, .b lg, .sl e m, .sl c l.length]) := by rw [E.blk _ hlt]; exact b0
  have dk : decide ((l.length : Int) < (l.length : Int)) = false := decide_eq_false (by omega)
  simp -implicitDefEqProofs only [haymowref46_node_L2, hB, c0, dk, Nat.reduceAdd, Nat.reduceMul, Nat.reduceLT, Int.reduceToNat, Int.reduceAdd, Int.reduceSub, Int.reduceMul, rsU, s_ldI, s_ldU, s_ldS, s_ldP, s_gtI, s_gtU, s_gtS, s_bleD, Nat.reduceLeDiff, decide_true, decide_false]
  rw [List.take_length] at ht
  subst ht
  exact Ok_some.2 ⟨rfl, E⟩
theorem XLro_ok {σ h : AH O} {B : Nat} (hB : h.next = B) {c e e2 : SA} {l : List Int} {m m2 : Nat} (b0 : σ.blk B = some (.cells true 30 [.sl e m, .sl c l.length, .sl e2 m2])) (hlt : B < σ.next) (hc : Ints .i64 c l) (hr : ∀ n ∈ l, I64 n) (hl : l.length ≤ 1200) {s : Bs} (hs : s.length ≤ 100000000000) :
  Ok (loopF (S := List AV × AH O) (T := List AV × AH O) (haymowref46_Text_L2 h haymowref03_Text) ([.s s, .i .i64 0], σ)) fun r => r.1 = [.s (s ++ (l.map numT).flatMap (32 :: ·))] ∧ Ext σ r.2 := by
 refine Ok.count l.length (fun k q => ∃ t σ', t = s ++ ((l.take k).map numT).flatMap (32 :: ·) ∧ t.length ≤ s.length + 22 * k ∧ q = ([.s t, .i .i64 (k : Int)], σ') ∧ Ext σ σ') ?_ ?_ ⟨s, σ, by simp, by omega, rfl, Ext.refl _⟩
 ·rintro k _ hk ⟨t, σ', ht, tl, rfl, E⟩
  have hx : l[k]? = some l[k] := List.getElem?_eq_getElem hk
  have hm := hr _ (List.getElem_mem hk)
  have htk : l.take (k + 1) = l.take k ++ [l[k]] := by rw [List.take_add_one, hx]; rfl
  generalize l[k] = x at *
  obtain ⟨bb, oo, r1, ld⟩ := ints_ld hc hx
  have ld := fun σ => ld O σ
  have c0 : σ'.blk B = some (.cells true 30 [.sl e m, .sl c l.length, .sl e2 m2]) := by rw [E.blk _ hlt]; exact b0
  have dk : decide ((k : Int) < (l.length : Int)) = true := decide_eq_true (by omega)
  have d0 : decide ((0 : Int) ≤ (k : Int)) = true := decide_eq_true (by omega)
  have t3 : (true && true) = true := rfl
  have k1 : k * 1 = k := Nat.mul_one k
  have e1 : IntKind.i64.wrap ((k : Int) + 1) = ((k + 1 : Nat) : Int) := by rw [i64_id (by omega) (by omega)]; omega
  have hfx : (numT x).length ≤ 21 := numT_few hm
  have bl1 : decide (t.length ≤ 9223372036854775806) = true := decide_eq_true (by omega)
  have bl2 : decide ((t ++ [32]).length + (numT x).length ≤ 9223372036854775807) = true := decide_eq_true (by simp; omega)
  simp -implicitDefEqProofs only [haymowref46_Text_L2, hB, c0, dk, d0, t3, r1, Int.toNat_natCast, k1, ld, bl1, Nat.reduceAdd, Nat.reduceMul, Nat.reduceLT, Int.reduceToNat, Int.reduceAdd, Int.reduceSub, Int.reduceMul, rsU, s_ldI, s_ldU, s_ldS, s_ldP, s_gtI, s_gtU, s_gtS, s_bleD, Nat.reduceLeDiff, decide_true, decide_false]
  refine Ok.step (rText_ok hm) ?_
  rintro ⟨v, σ1⟩ ⟨v1, E1⟩
  simp only at v1 E1
  subst v1
  simp -implicitDefEqProofs only [bl2, e1, Nat.reduceAdd, Nat.reduceMul, Nat.reduceLT, Int.reduceToNat, Int.reduceAdd, Int.reduceSub, Int.reduceMul, rsU, s_ldI, s_ldU, s_ldS, s_ldP, s_gtI, s_gtU, s_gtS, s_bleD, Nat.reduceLeDiff, decide_true, decide_false]
  exact Ok_some.2 ⟨t ++ [32] ++ numT x, σ1, by rw [htk, ht]; simp, by simp; omega, rfl, E.trans E1⟩
 ·rintro _ ⟨t, σ', ht, tl, rfl, E⟩
  have c0 : σ'.blk B = some (.cells true 30 [.sl e m, .sl c l.length, .sl e2 m2]) := by rw [E.blk _ hlt]; exact b0
  have dk : decide ((l.length : Int) < (l.length : Int)) = false := decide_eq_false (by omega)
  simp -implicitDefEqProofs only [haymowref46_Text_L2, hB, c0, dk, Nat.reduceAdd, Nat.reduceMul, Nat.reduceLT, Int.reduceToNat, Int.reduceAdd, Int.reduceSub, Int.reduceMul, rsU, s_ldI, s_ldU, s_ldS, s_ldP, s_gtI, s_gtU, s_gtS, s_bleD, Nat.reduceLeDiff, decide_true, decide_false]
  rw [List.take_length] at ht
  subst ht
  exact Ok_some.2 ⟨rfl, E⟩
theorem XLrw_ok {σ h : AH O} {B : Nat} (hB : h.next = B) {c e e2 : SA} {l : List Int} {m m2 : Nat} (b0 : σ.blk B = some (.cells true 30 [.sl e m, .sl e2 m2, .sl c l.length])) (hlt : B < σ.next) (hc : Ints .i64 c l) (hr : ∀ n ∈ l, I64 n) (hl : l.length ≤ 1200) {s : Bs} (hs : s.length ≤ 100000000000) :
  Ok (loopF (S := List AV × AH O) (T := List AV × AH O) (haymowref46_Text_L3 h haymowref03_Text) ([.s s, .i .i64 0], σ)) fun r => r.1 = [.s (s ++ (l.map numT).flatMap (32 :: ·))] ∧ Ext σ r.2 := by
 refine Ok.count l.length (fun k q => ∃ t σ', t = s ++ ((l.take k).map numT).flatMap (32 :: ·) ∧ t.length ≤ s.length + 22 * k ∧ q = ([.s t, .i .i64 (k : Int)], σ') ∧ Ext σ σ') ?_ ?_ ⟨s, σ, by simp, by omega, rfl, Ext.refl _⟩
 ·rintro k _ hk ⟨t, σ', ht, tl, rfl, E⟩
  have hx : l[k]? = some l[k] := List.getElem?_eq_getElem hk
  have hm := hr _ (List.getElem_mem hk)
  have htk : l.take (k + 1) = l.take k ++ [l[k]] := by rw [List.take_add_one, hx]; rfl
  generalize l[k] = x at *
  obtain ⟨bb, oo, r1, ld⟩ := ints_ld hc hx
  have ld := fun σ => ld O σ
  have c0 : σ'.blk B = some (.cells true 30 [.sl e m, .sl e2 m2, .sl c l.length]) := by rw [E.blk _ hlt]; exact b0
  have dk : decide ((k : Int) < (l.length : Int)) = true := decide_eq_true (by omega)
  have d0 : decide ((0 : Int) ≤ (k : Int)) = true := decide_eq_true (by omega)
  have t3 : (true && true) = true := rfl
  have k1 : k * 1 = k := Nat.mul_one k
  have e1 : IntKind.i64.wrap ((k : Int) + 1) = ((k + 1 : Nat) : Int) := by rw [i64_id (by omega) (by omega)]; omega
  have hfx : (numT x).length ≤ 21 := numT_few hm
  have bl1 : decide (t.length ≤ 9223372036854775806) = true := decide_eq_true (by omega)
  have bl2 : decide ((t ++ [32]).length + (numT x).length ≤ 9223372036854775807) = true := decide_eq_true (by simp; omega)
  simp -implicitDefEqProofs only [haymowref46_Text_L3, hB, c0, dk, d0, t3, r1, Int.toNat_natCast, k1, ld, bl1, Nat.reduceAdd, Nat.reduceMul, Nat.reduceLT, Int.reduceToNat, Int.reduceAdd, Int.reduceSub, Int.reduceMul, rsU, s_ldI, s_ldU, s_ldS, s_ldP, s_gtI, s_gtU, s_gtS, s_bleD, Nat.reduceLeDiff, decide_true, decide_false]
  refine Ok.step (rText_ok hm) ?_
  rintro ⟨v, σ1⟩ ⟨v1, E1⟩
  simp only at v1 E1
  subst v1
  simp -implicitDefEqProofs only [bl2, e1, Nat.reduceAdd, Nat.reduceMul, Nat.reduceLT, Int.reduceToNat, Int.reduceAdd, Int.reduceSub, Int.reduceMul, rsU, s_ldI, s_ldU, s_ldS, s_ldP, s_gtI, s_gtU, s_gtS, s_bleD, Nat.reduceLeDiff, decide_true, decide_false]
  exact Ok_some.2 ⟨t ++ [32] ++ numT x, σ1, by rw [htk, ht]; simp, by simp; omega, rfl, E.trans E1⟩
 ·rintro _ ⟨t, σ', ht, tl, rfl, E⟩
  have c0 : σ'.blk B = some (.cells true 30 [.sl e m, .sl e2 m2, .sl c l.length]) := by rw [E.blk _ hlt]; exact b0
  have dk : decide ((l.length : Int) < (l.length : Int)) = false := decide_eq_false (by omega)
  simp -implicitDefEqProofs only [haymowref46_Text_L3, hB, c0, dk, Nat.reduceAdd, Nat.reduceMul, Nat.reduceLT, Int.reduceToNat, Int.reduceAdd, Int.reduceSub, Int.reduceMul, rsU, s_ldI, s_ldU, s_ldS, s_ldP, s_gtI, s_gtU, s_gtS, s_bleD, Nat.reduceLeDiff, decide_true, decide_false]
  rw [List.take_length] at ht
  subst ht
  exact Ok_some.2 ⟨rfl, E⟩
end Go.Abs.Tryd
namespace Go.Abs.Tryd
open Go Go.Abs
variable {O : Type}
theorem joinS_add (c : UInt8) : ∀ (w : Bs) (ws : List Bs), joinS c (w :: ws) = w ++ ws.flatMap (c :: ·)
 | w, [] => by simp [joinS]
 | w, v :: ws => by rw [joinS_cons c w (by simp), joinS_add c v ws]; simp
theorem joinS_few (c : UInt8) {m : Nat} : ∀ {ws : List Bs}, (∀ w ∈ ws, w.length ≤ m) → (joinS c ws).length ≤ ws.length * (m + 1)
 | [], _ => by simp [joinS]
 | w :: ws, h => by
  rw [joinS_add, List.length_append]
  have h1 := h w (by simp)
  have : ∀ {us : List Bs}, (∀ w ∈ us, w.length ≤ m) → (us.flatMap (c :: ·)).length ≤ us.length * (m + 1) := fun {us} hu => by
   induction us with
   | nil => simp
   | cons u us ih =>
    have := ih fun v hv => hu v (List.mem_cons_of_mem _ hv)
    have := hu u (by simp)
    simp only [List.flatMap_cons, List.length_append, List.length_cons, Nat.add_mul]; omega
  have := this fun v hv => h v (List.mem_cons_of_mem _ hv)
  simp only [List.length_cons, Nat.add_mul]; omega
theorem lnodeW_few {x : NV} (hx : x.rng) : ∀ w ∈ lnodeW x, w.length ≤ 21 := by
 intro w hw
 unfold lnodeW at hw
 simp only [List.mem_append, List.mem_cons, List.mem_map, List.not_mem_nil, or_false] at hw
 rcases hw with (((rfl | rfl | rfl | rfl) | ⟨n, hn, rfl⟩) | (rfl | ⟨n, hn, rfl⟩))
 ·decide
 ·cases x.h.large <;> decide
 ·exact numT_few hx.s
 ·exact numT_few hx.g
 ·exact numT_few (hx.P n hn)
 ·decide
 ·exact hexI_few
theorem lnodeT_few {x : NV} (hx : x.rng) (hp : x.P.length ≤ 1200) (hr : x.R.length ≤ 1200) : (lnodeT x).length ≤ 60000 := by
 have := joinS_few 32 (lnodeW_few hx)
 have e : (lnodeW x).length = 4 + x.P.length + (x.R.length + 1) := by simp [lnodeW]; omega
 unfold lnodeT
 rw [e] at this; omega
theorem join_ok {σ : AH O} {a : SA} {ws : List Bs} {c : UInt8} (own : OwnS σ 9 1 a ws.length (ws.map AV.s)) (h0 : ws ≠ []) (hl : (joinS c ws).length ≤ 1000000) (hn : ws.length ≤ 1000000) :
  Ok (strings_Join [.sl a ws.length, .s [c]] σ) fun r => r = (.s (joinS c ws), σ) := by
 have n0 : Nat.beq ws.length 0 = false := by cases ws with
  | nil => exact absurd rfl h0
  | cons => rfl
 have : strings_Join [.sl a ws.length, .s [c]] σ = some (.s (joinS c ws), σ) := by
  simp only [strings_Join, n0, cond_false, own.rd.rdSl, Option.bind_some, strsOf_map, Nat.ble_eq_true_of_le hl, Nat.ble_eq_true_of_le hn, Bool.and_self, cond_true]
 exact Ok_of this rfl
theorem growS {σ : AH O} {a : SA} {ws : List Bs} {v : Bs} (ho : OwnS σ 9 1 a ws.length (ws.map AV.s)) :
  Ok (((σ.bump 2).put σ.next (.cells true 9 [.s v])).appSl (σ.next + 1) 9 1 a ws.length 1 [.s v]) fun r => ∃ a', r.1 = .sl a' (ws ++ [v]).length ∧ OwnS r.2 9 1 a' (ws ++ [v]).length ((ws ++ [v]).map AV.s) ∧ Chg (SA.bk a) σ r.2 ∧ ∀ b ∈ SA.bk a', σ.next ≤ b ∧ b < r.2.next := by
 refine (grow1 ho).mono fun r ⟨a', h1, h2, h3, h4⟩ => ⟨a', by rw [h1]; simp, by simpa using h2, h3, h4⟩
theorem chkE_eq {x y : Option AV} (h : x = y) : chkE x y = some () := by
 unfold chkE chk
 cases eqOA x y
 ·simp [h]
 ·rfl
theorem gnode_ok {σ : AH O} {x : NV} {c d : SA} (hc : Ints .i64 c x.P) (hd : Ints .u64 d x.R) (hx : x.rng) (hp : x.P.length ≤ 1200) (hr : x.R.length ≤ 1200) :
  Ok (lines_node [.agg (x.cells c d)] σ) fun r => r.1 = .s (lnodeT x) ∧ Ext σ r.2 := by
 unfold lines_node lines_node_c
 refine Ok.cT rfl ?_
 refine Ok.to (x := x.cells c d) rfl ?_
 refine Ok.to (x := x.h.p) rfl ?_
 refine Ok.to (x := x.h.r) rfl ?_
 refine Ok.to (x := x.h.site) rfl ?_
 refine Ok.to (x := x.h.age) rfl ?_
 refine Ok.to (x := x.h.large) rfl ?_
 refine Ok.to (x := (c, x.P.length)) rfl ?_
 refine Ok.to (x := (d, x.R.length)) rfl ?_
 refine Ok.to (x := .b x.h.large) (by simp -implicitDefEqProofs only [Nat.reduceAdd, Nat.reduceMul, Nat.reduceLT, Int.reduceToNat, Int.reduceAdd, Int.reduceSub, Int.reduceMul, rsU, s_ldI, s_ldU, s_ldS, s_ldP, s_gtI, s_gtU, s_gtS, s_bleD, Nat.reduceLeDiff, decide_true, decide_false]) ?_
 refine Ok.to (x := x.h.large) rfl ?_
 generalize hσ2 : (σ.bump 1).put σ.next _ = σ2
 have b2 : σ2.blk σ.next = some (.cells true 48 [.i .i64 x.h.p, .i .i64 x.h.r, .i .i64 x.h.site, .i .i64 x.h.age, .b x.h.large, .sl c x.P.length, .sl d x.R.length]) := by rw [← hσ2]; exact s_bs
 have E2 : Ext σ σ2 := by rw [← hσ2]; exact ((Ext.refl σ).bump 1).put (Nat.le_refl _) _
 have n2 : σ2.next = σ.next + 1 := by rw [← hσ2]; rfl
 clear hσ2
 refine Ok.step (Q := fun r => r = ([.s (markB x.h.large)], σ2)) (by generalize x.h.large = lg; cases lg <;> exact Ok_some.2 rfl) ?_
 rintro _ rfl
 refine Ok.to (x := markB x.h.large) rfl ?_
 refine Ok.to (x := .i .i64 x.h.site) (by simp -implicitDefEqProofs only [b2, Nat.reduceAdd, Nat.reduceMul, Nat.reduceLT, Int.reduceToNat, Int.reduceAdd, Int.reduceSub, Int.reduceMul, rsU, s_ldI, s_ldU, s_ldS, s_ldP, s_gtI, s_gtU, s_gtS, s_bleD, Nat.reduceLeDiff, decide_true, decide_false]) (Ok.to (x := x.h.site) rfl ?_)
 refine Ok.to (x := .i .i64 x.h.age) (by simp -implicitDefEqProofs only [b2, Nat.reduceAdd, Nat.reduceMul, Nat.reduceLT, Int.reduceToNat, Int.reduceAdd, Int.reduceSub, Int.reduceMul, rsU, s_ldI, s_ldU, s_ldS, s_ldP, s_gtI, s_gtU, s_gtS, s_bleD, Nat.reduceLeDiff, decide_true, decide_false]) (Ok.to (x := x.h.age) rfl ?_)
 refine Ok.step (gText_ok hx.s) ?_
 rintro ⟨v, σ3⟩ ⟨v1, E3⟩
 simp only at v1 E3
 subst v1
 refine Ok.to (x := numT x.h.site) rfl ?_
 have n3 : σ2.next + 1 ≤ σ3.next := by simpa using E3.next
 have b3 : σ3.blk σ.next = some (.cells true 48 [.i .i64 x.h.p, .i .i64 x.h.r, .i .i64 x.h.site, .i .i64 x.h.age, .b x.h.large, .sl c x.P.length, .sl d x.R.length]) := by rw [E3.blk _ (by simp; omega)]; exact b2
 refine Ok.to (x := ()) (chkE_eq (by simp -implicitDefEqProofs only [b3, Nat.reduceAdd, Nat.reduceMul, Nat.reduceLT, Int.reduceToNat, Int.reduceAdd, Int.reduceSub, Int.reduceMul, rsU, s_ldI, s_ldU, s_ldS, s_ldP, s_gtI, s_gtU, s_gtS, s_bleD, Nat.reduceLeDiff, decide_true, decide_false])) ?_
 refine Ok.step (gText_ok hx.g) ?_
 rintro ⟨v, σ4⟩ ⟨v1, E4⟩
 simp only at v1 E4
 subst v1
 refine Ok.to (x := numT x.h.age) rfl ?_
 have n4 : σ2.next + 1 ≤ σ4.next := by have := E4.next; omega
 have E24 : Ext σ2 σ4 := ⟨by omega, fun b hb => (E4.blk b (by omega)).trans (E3.blk b (by simp; omega))⟩
 have b4 : ∀ y, (σ4.put σ2.next y).blk σ.next = some (.cells true 48 [.i .i64 x.h.p, .i .i64 x.h.r, .i .i64 x.h.site, .i .i64 x.h.age, .b x.h.large, .sl c x.P.length, .sl d x.R.length]) := fun y => by rw [s_bn (by omega), E24.blk _ (by omega)]; exact b2
 refine Ok.to (x := .sl c x.P.length) (by simp -implicitDefEqProofs only [b4, Nat.reduceAdd, Nat.reduceMul, Nat.reduceLT, Int.reduceToNat, Int.reduceAdd, Int.reduceSub, Int.reduceMul, rsU, s_ldI, s_ldU, s_ldS, s_ldP, s_gtI, s_gtU, s_gtS, s_bleD, Nat.reduceLeDiff, decide_true, decide_false]) (Ok.to (x := (c, x.P.length)) rfl ?_)
 generalize hws0 : ([nodeB, markB x.h.large, numT x.h.site, numT x.h.age] : List Bs) = ws0
 have own5 : OwnS (σ4.put σ2.next (.cells true 9 [.s [110, 111, 100, 101], .s (markB x.h.large), .s (numT x.h.site), .s (numT x.h.age)])) 9 1 (.loc (.n σ2.next) 0 1) ws0.length (ws0.map AV.s) := by
  rw [← hws0]; exact OwnS.new rfl s_bs (by simp; omega)
 have l4 : ws0.length = 4 := by rw [← hws0]; rfl
 have L1 := XLgp_ok (σ0 := σ2) hc hx.P hp (by omega) own5 (E24.put (Nat.le_refl _) _) (by simp [SA.bk])
 rw [l4] at L1
 refine Ok.step L1 ?_
 rintro ⟨v, σ6⟩ ⟨a6, v1, own6, E6, fr6⟩
 simp only at v1 own6 E6
 subst v1
 generalize hws1 : ws0 ++ x.P.map numT = ws1 at *
 have l1 : ws1.length = 4 + x.P.length := by rw [← hws1]; simp [l4]
 refine Ok.to (x := (a6, ws1.length)) rfl ?_
 refine Ok.to (x := [.s [58]]) rdNew1 ?_
 refine Ok.cT (Nat.ble_eq_true_of_le (show (ws1.length + 1) * 17 ≤ _ by omega)) ?_
 refine Ok.step (growS own6) ?_
 rintro ⟨v, σ7⟩ ⟨a7, v1, own7, C7, fr7⟩
 simp only at v1 own7 C7 fr7
 subst v1
 have E7 : Ext σ2 σ7 := Chg.new E6 fr6 C7
 have b7 : σ7.blk σ.next = some (.cells true 48 [.i .i64 x.h.p, .i .i64 x.h.r, .i .i64 x.h.site, .i .i64 x.h.age, .b x.h.large, .sl c x.P.length, .sl d x.R.length]) := by rw [E7.blk _ (by omega)]; exact b2
 have l7 : (ws1 ++ [([58] : Bs)]).length = 5 + x.P.length := by simp [l1]; omega
 have j2 : ws1 ++ [([58] : Bs)] ++ x.R.map hexI = lnodeW x := by rw [← hws1, ← hws0]; simp [lnodeW, colonB]
 generalize ws1 ++ [([58] : Bs)] = ws2 at *
 refine Ok.to (x := (a7, ws2.length)) rfl ?_
 refine Ok.to (x := .sl d x.R.length) (by simp -implicitDefEqProofs only [b7, Nat.reduceAdd, Nat.reduceMul, Nat.reduceLT, Int.reduceToNat, Int.reduceAdd, Int.reduceSub, Int.reduceMul, rsU, s_ldI, s_ldU, s_ldS, s_ldP, s_gtI, s_gtU, s_gtS, s_bleD, Nat.reduceLeDiff, decide_true, decide_false]) (Ok.to (x := (d, x.R.length)) rfl ?_)
 refine Ok.step (XLgr_ok (σ0 := σ2) hd hx.R hr (by omega) own7 E7 (fun b hb => by have := fr7 b hb; have := E6.next; omega)) ?_
 rintro ⟨v, σ8⟩ ⟨a8, v1, own8, E8, fr8⟩
 simp only at v1 own8 E8
 subst v1
 rw [j2] at *
 have lw : (lnodeW x).length = 4 + x.P.length + (x.R.length + 1) := by simp [lnodeW]; omega
 refine Ok.to (x := (a8, (lnodeW x).length)) rfl ?_
 refine Ok.step (join_ok own8 (lnodeW_ne x) (Nat.le_trans (lnodeT_few hx hp hr) (by omega)) (by omega)) ?_
 rintro _ rfl
 exact Ok_some.2 ⟨rfl, E2.trans E8⟩
end Go.Abs.Tryd
namespace Go.Abs.Tryd
open Go Go.Abs
variable {O : Type}
theorem rnode_ok {σ : AH O} {x : NV} {c d : SA} (hc : Ints .i64 c x.P) (hd : Ints .u64 d x.R) (hx : x.rng) (hp : x.P.length ≤ 1200) (hr : x.R.length ≤ 1200) :
  Ok (haymowref46_node [.agg (x.cells c d)] σ) fun r => r.1 = .s (lnodeT x) ∧ Ext σ r.2 := by
 unfold haymowref46_node haymowref46_node_c
 refine Ok.cT rfl ?_
 refine Ok.to (x := x.cells c d) rfl ?_
 refine Ok.to (x := x.h.p) rfl ?_
 refine Ok.to (x := x.h.r) rfl ?_
 refine Ok.to (x := x.h.site) rfl ?_
 refine Ok.to (x := x.h.age) rfl ?_
 refine Ok.to (x := x.h.large) rfl ?_
 refine Ok.to (x := (c, x.P.length)) rfl ?_
 refine Ok.to (x := (d, x.R.length)) rfl ?_
 refine Ok.to (x := .b x.h.large) (by simp -implicitDefEqProofs only [Nat.reduceAdd, Nat.reduceMul, Nat.reduceLT, Int.reduceToNat, Int.reduceAdd, Int.reduceSub, Int.reduceMul, rsU, s_ldI, s_ldU, s_ldS, s_ldP, s_gtI, s_gtU, s_gtS, s_bleD, Nat.reduceLeDiff, decide_true, decide_false]) ?_
 refine Ok.to (x := x.h.large) rfl ?_
 generalize hσ2 : (σ.bump 1).put σ.next _ = σ2
 have b2 : σ2.blk σ.next = some (.cells true 50 [.i .i64 x.h.p, .i .i64 x.h.r, .i .i64 x.h.site, .i .i64 x.h.age, .b x.h.large, .sl c x.P.length, .sl d x.R.length]) := by rw [← hσ2]; exact s_bs
 have E2 : Ext σ σ2 := by rw [← hσ2]; exact ((Ext.refl σ).bump 1).put (Nat.le_refl _) _
 have n2 : σ2.next = σ.next + 1 := by rw [← hσ2]; rfl
 clear hσ2
 refine Ok.step (Q := fun r => r = ([.s (nodeB ++ 32 :: markB x.h.large)], σ2)) (by generalize x.h.large = lg; cases lg <;> exact Ok_some.2 rfl) ?_
 rintro _ rfl
 refine Ok.to (x := nodeB ++ 32 :: markB x.h.large) rfl ?_
 have h0 : (nodeB ++ 32 :: markB x.h.large).length ≤ 10 := by cases x.h.large <;> decide
 have f1 := numT_few hx.s
 have f2 := numT_few hx.g
 have hT : ∀ t, lnodeT x = t ↔ ((nodeB ++ 32 :: markB x.h.large) ++ [32] ++ numT x.h.site ++ [32] ++ numT x.h.age ++ (x.P.map numT).flatMap (32 :: ·)) ++ [32, 58] ++ (x.R.map hexI).flatMap (32 :: ·) = t := fun t => by
  unfold lnodeT lnodeW
  rw [List.cons_append, List.cons_append, joinS_add]
  simp [colonB]
 generalize hs0 : nodeB ++ 32 :: markB x.h.large = s0 at *
 refine Ok.cT (Nat.ble_eq_true_of_le (show s0.length + 1 ≤ _ by omega)) ?_
 refine Ok.to (x := .i .i64 x.h.site) (by simp -implicitDefEqProofs only [b2, Nat.reduceAdd, Nat.reduceMul, Nat.reduceLT, Int.reduceToNat, Int.reduceAdd, Int.reduceSub, Int.reduceMul, rsU, s_ldI, s_ldU, s_ldS, s_ldP, s_gtI, s_gtU, s_gtS, s_bleD, Nat.reduceLeDiff, decide_true, decide_false]) (Ok.to (x := x.h.site) rfl ?_)
 refine Ok.to (x := .i .i64 x.h.age) (by simp -implicitDefEqProofs only [b2, Nat.reduceAdd, Nat.reduceMul, Nat.reduceLT, Int.reduceToNat, Int.reduceAdd, Int.reduceSub, Int.reduceMul, rsU, s_ldI, s_ldU, s_ldS, s_ldP, s_gtI, s_gtU, s_gtS, s_bleD, Nat.reduceLeDiff, decide_true, decide_false]) (Ok.to (x := x.h.age) rfl ?_)
 refine Ok.step (rText_ok hx.s) ?_
 rintro ⟨v, σ3⟩ ⟨v1, E3⟩
 simp only at v1 E3
 subst v1
 refine Ok.to (x := numT x.h.site) rfl ?_
 have n3 := E3.next
 have b3 : σ3.blk σ.next = some (.cells true 50 [.i .i64 x.h.p, .i .i64 x.h.r, .i .i64 x.h.site, .i .i64 x.h.age, .b x.h.large, .sl c x.P.length, .sl d x.R.length]) := by rw [E3.blk _ (by omega)]; exact b2
 refine Ok.to (x := ()) (chkE_eq (by simp -implicitDefEqProofs only [b3, Nat.reduceAdd, Nat.reduceMul, Nat.reduceLT, Int.reduceToNat, Int.reduceAdd, Int.reduceSub, Int.reduceMul, rsU, s_ldI, s_ldU, s_ldS, s_ldP, s_gtI, s_gtU, s_gtS, s_bleD, Nat.reduceLeDiff, decide_true, decide_false])) ?_
 refine Ok.cT (Nat.ble_eq_true_of_le (by simp; omega)) ?_
 refine Ok.cT (Nat.ble_eq_true_of_le (by simp; omega)) ?_
 refine Ok.step (rText_ok hx.g) ?_
 rintro ⟨v, σ4⟩ ⟨v1, E4⟩
 simp only at v1 E4
 subst v1
 refine Ok.to (x := numT x.h.age) rfl ?_
 have n4 := E4.next
 have b4 : σ4.blk σ.next = some (.cells true 50 [.i .i64 x.h.p, .i .i64 x.h.r, .i .i64 x.h.site, .i .i64 x.h.age, .b x.h.large, .sl c x.P.length, .sl d x.R.length]) := by rw [E4.blk _ (by omega)]; exact b3
 refine Ok.cT (Nat.ble_eq_true_of_le (by simp; omega)) ?_
 have lA : (s0 ++ [32] ++ numT x.h.site ++ [32] ++ numT x.h.age).length ≤ 60 := by simp; omega
 generalize hs1 : s0 ++ [32] ++ numT x.h.site ++ [32] ++ numT x.h.age = s1 at *
 refine Ok.step (XLrp_ok (h := σ) rfl b4 (by omega) hc hx.P hp (s := s1) (by omega)) ?_
 rintro ⟨v, σ5⟩ ⟨v1, E5⟩
 simp only at v1 E5
 subst v1
 have n5 := E5.next
 have b5 : σ5.blk σ.next = some (.cells true 50 [.i .i64 x.h.p, .i .i64 x.h.r, .i .i64 x.h.site, .i .i64 x.h.age, .b x.h.large, .sl c x.P.length, .sl d x.R.length]) := by rw [E5.blk _ (by omega)]; exact b4
 have lB : (s1 ++ (x.P.map numT).flatMap (32 :: ·)).length ≤ 60000 := by
  have := joinS_few 32 (m := 21) (ws := [] :: x.P.map numT) (fun w hw => by
   rcases List.mem_cons.1 hw with rfl | hw
   ·simp
   ·obtain ⟨n, hn, rfl⟩ := List.mem_map.1 hw
    exact numT_few (hx.P n hn))
  rw [joinS_add] at this
  simp only [List.nil_append, List.length_cons, List.length_map] at this
  rw [List.length_append]; omega
 generalize s1 ++ (x.P.map numT).flatMap (32 :: ·) = s2 at *
 refine Ok.to (x := s2) rfl ?_
 refine Ok.cT (Nat.ble_eq_true_of_le (show s2.length + 2 ≤ _ by omega)) ?_
 refine Ok.step (XLrr_ok (h := σ) rfl b5 (by omega) hd hx.R hr (s := s2 ++ [32, 58]) (by simp; omega)) ?_
 rintro ⟨v, σ6⟩ ⟨v1, E6⟩
 simp only at v1 E6
 subst v1
 refine Ok.to (x := s2 ++ [32, 58] ++ (x.R.map hexI).flatMap (32 :: ·)) rfl ?_
 exact Ok_some.2 ⟨by rw [(hT _).2 rfl], (((E2.trans E3).trans E4).trans E5).trans E6⟩
end Go.Abs.Tryd
namespace Go.Abs.Tryd
open Go Go.Abs
variable {O : Type}
def BldS (σ : AH O) (b : Nat) (l : Bs) : Prop := ∃ q a, σ.blk b = some (.cells true 54 [.p q, .sl a l.length]) ∧ (q = none ∨ q = some (.n b, 0)) ∧ OwnS σ 5 1 a l.length (l.map fun c => .i .u8 (c.toNat : Int)) ∧ (∀ k ∈ SA.bk a, b < k) ∧ b < σ.next
structure Low (b : Nat) (σ σ' : AH O) : Prop where
 next : σ.next ≤ σ'.next
 blk : ∀ k, k < b → σ'.blk k = σ.blk k
theorem Low.refl (b : Nat) (σ : AH O) : Low b σ σ := ⟨Nat.le_refl _, fun _ _ => rfl⟩
theorem Low.trans {b : Nat} {σ σ' σ'' : AH O} (h : Low b σ σ') (h' : Low b σ' σ'') : Low b σ σ'' := ⟨Nat.le_trans h.next h'.next, fun k hk => (h'.blk k hk).trans (h.blk k hk)⟩
theorem Low.of {b : Nat} {σ σ' : AH O} (hb : b ≤ σ.next) (h : Ext σ σ') : Low b σ σ' := ⟨h.next, fun k hk => h.blk k (by omega)⟩
theorem BldS.ext {σ σ' : AH O} {b : Nat} {l : Bs} (h : BldS σ b l) (E : Ext σ σ') : BldS σ' b l := by
 obtain ⟨q, a, h1, h2, h3, h4, h5⟩ := h
 exact ⟨q, a, by rw [E.blk _ h5]; exact h1, h2, h3.of E.next fun k hk => E.blk k (h3.lt k hk), h4, Nat.lt_of_lt_of_le h5 E.next⟩
theorem BldS.new {σ : AH O} {b : Nat} (h : σ.blk b = some (.cells true 54 [.p none, .sl .nil 0])) (hb : b < σ.next) : BldS σ b [] := ⟨none, .nil, h, .inl rfl, OwnS.nil _ _ _, by simp [SA.bk], hb⟩
theorem copy_ok {σ : AH O} {b : Nat} {l : Bs} (h : BldS σ b l) : Ok (__strings_Builder__copyCheck [.p (some (.n b, 0))] σ) fun r => r.1 = .tup [] ∧ Low b σ r.2 ∧ ∃ a, r.2.blk b = some (.cells true 54 [.p (some (.n b, 0)), .sl a l.length]) ∧ OwnS r.2 5 1 a l.length (l.map fun c => .i .u8 (c.toNat : Int)) ∧ (∀ k ∈ SA.bk a, b < k) ∧ b < r.2.next := by
 obtain ⟨q, a, h1, h2, h3, h4, h5⟩ := h
 have e1 : Nat.beq 54 54 = true := rfl
 rcases h2 with rfl | rfl
 ·refine Ok_of (r := (.tup [], σ.put b (.cells true 54 [.p (some (.n b, 0)), .sl a l.length]))) (by simp only [__strings_Builder__copyCheck, h1, e1, cond_true]) ⟨rfl, ⟨Nat.le_refl _, fun k hk => s_bn (by omega)⟩, a, s_bs, ?_, h4, h5⟩
  exact h3.of (Nat.le_refl _) fun k hk => by have := h4 k hk; exact s_bn (by omega)
 ·exact Ok_of (r := (.tup [], σ)) (by simp only [__strings_Builder__copyCheck, h1, e1, cond_true, s_beq]) ⟨rfl, Low.refl _ _, a, h1, h3, h4, h5⟩
theorem bstr_ok {σ : AH O} {b : Nat} {l s : Bs} (h : BldS σ b l) (hl : l.length + s.length ≤ 1000000000000) :
  Ok (__strings_Builder__WriteString [.p (some (.n b, 0)), .s s] σ) fun r => r.1 = .tup [.i .i64 s.length, .nifc] ∧ Low b σ r.2 ∧ BldS r.2 b (l ++ s) := by
 unfold __strings_Builder__WriteString __strings_Builder__WriteString_c
 refine Ok.cT rfl ?_
 refine Ok.to (x := some (.n b, 0)) rfl ?_
 refine Ok.to (x := s) rfl ?_
 refine Ok.step (copy_ok h) ?_
 rintro ⟨v, σ1⟩ ⟨v1, L1, a, c1, own, fr, n1⟩
 simp only at v1 L1 c1 own n1
 subst v1
 refine Ok.to (x := []) rfl ?_
 refine Ok.to (x := (.n b, 0)) rfl ?_
 refine Ok.to (x := .sl a l.length) (by simp -implicitDefEqProofs only [c1, Nat.reduceAdd, Nat.reduceMul, Nat.reduceLT, Int.reduceToNat, Int.reduceAdd, Int.reduceSub, Int.reduceMul, rsU, s_ldI, s_ldU, s_ldS, s_ldP, s_gtI, s_gtU, s_gtS, s_bleD, Nat.reduceLeDiff, decide_true, decide_false]) (Ok.to (x := (a, l.length)) rfl ?_)
 refine Ok.cT (Nat.ble_eq_true_of_le (show (l.length + s.length) * 2 ≤ _ by omega)) ?_
 have own' : OwnS (σ1.bump 1) 5 1 a l.length (l.map fun c => .i .u8 (c.toNat : Int)) := own.of (by simp) fun _ _ => rfl
 have hlt := own.lt
 refine Ok.step (app_ok (nid := σ1.next) own' (fun hm => by have := hlt _ hm; omega) (by simp) (show (s.map fun c => (.i .u8 (c.toNat : Int) : AV)).length = s.length * 1 by simp)) ?_
 rintro ⟨v, σ2⟩ ⟨a', v1, g2, g3, g4, g5⟩
 simp only at v1 g2 g3 g4
 subst v1
 refine Ok.to (x := (a', l.length + s.length)) rfl ?_
 refine Ok.to (x := (.n b, 0)) rfl ?_
 have c2 : σ2.blk b = some (.cells true 54 [.p (some (.n b, 0)), .sl a l.length]) := by rw [g4 b (by omega) (fun hm => by have := fr _ hm; omega)]; exact c1
 refine Ok.to (x := σ2.put b (.cells true 54 [.p (some (.n b, 0)), .sl a' (l.length + s.length)])) (by simp -implicitDefEqProofs only [c2, Nat.reduceAdd, Nat.reduceMul, Nat.reduceLT, Int.reduceToNat, Int.reduceAdd, Int.reduceSub, Int.reduceMul, rsU, s_ldI, s_ldU, s_ldS, s_ldP, s_gtI, s_gtU, s_gtS, s_bleD, Nat.reduceLeDiff, decide_true, decide_false]) ?_
 have n3 : σ2.next = σ1.next + 1 := by rw [g3]; rfl
 refine Ok_some.2 ⟨rfl, L1.trans ⟨by show σ1.next ≤ σ2.next; omega, fun k hk => ?_⟩, some (.n b, 0), a', ?_, .inr rfl, ?_, fun k hk => by have := g5 k hk; omega, by show b < σ2.next; omega⟩
 ·show (σ2.put b _).blk k = _
  rw [s_bn (by omega), g4 k (by omega) (fun hm => by have := fr _ hm; omega)]; rfl
 ·rw [List.length_append]; exact s_bs
 ·rw [List.length_append, List.map_append]
  exact g2.of (Nat.le_refl _) fun k hk => by have := g5 k hk; exact s_bn (by omega)
theorem bbyte_ok {σ : AH O} {b : Nat} {l : Bs} {c : UInt8} (h : BldS σ b l) (hl : l.length ≤ 1000000000000) :
  Ok (__strings_Builder__WriteByte [.p (some (.n b, 0)), .i .u8 (c.toNat : Int)] σ) fun r => r.1 = .nifc ∧ Low b σ r.2 ∧ BldS r.2 b (l ++ [c]) := by
 unfold __strings_Builder__WriteByte __strings_Builder__WriteByte_c
 refine Ok.cT rfl ?_
 refine Ok.to (x := some (.n b, 0)) rfl ?_
 refine Ok.to (x := (c.toNat : Int)) rfl ?_
 refine Ok.step (copy_ok h) ?_
 rintro ⟨v, σ1⟩ ⟨v1, L1, a, c1, own, fr, n1⟩
 simp only at v1 L1 c1 own n1
 subst v1
 refine Ok.to (x := []) rfl ?_
 refine Ok.to (x := (.n b, 0)) rfl ?_
 refine Ok.to (x := .sl a l.length) (by simp -implicitDefEqProofs only [c1, Nat.reduceAdd, Nat.reduceMul, Nat.reduceLT, Int.reduceToNat, Int.reduceAdd, Int.reduceSub, Int.reduceMul, rsU, s_ldI, s_ldU, s_ldS, s_ldP, s_gtI, s_gtU, s_gtS, s_bleD, Nat.reduceLeDiff, decide_true, decide_false]) (Ok.to (x := (a, l.length)) rfl ?_)
 refine Ok.to (x := [.i .u8 (c.toNat : Int)]) rdNew1 ?_
 refine Ok.cT (Nat.ble_eq_true_of_le (show (l.length + 1) * 2 ≤ _ by omega)) ?_
 refine Ok.step (grow1 own) ?_
 rintro ⟨v, σ2⟩ ⟨a', v1, g2, g3, g4⟩
 simp only at v1 g2 g3 g4
 subst v1
 refine Ok.to (x := (a', l.length + 1)) rfl ?_
 refine Ok.to (x := (.n b, 0)) rfl ?_
 have n3 := g3.next
 have c2 : σ2.blk b = some (.cells true 54 [.p (some (.n b, 0)), .sl a l.length]) := by rw [g3.blk b (by omega) (fun hm => by have := fr _ hm; omega)]; exact c1
 refine Ok.to (x := σ2.put b (.cells true 54 [.p (some (.n b, 0)), .sl a' (l.length + 1)])) (by simp -implicitDefEqProofs only [c2, Nat.reduceAdd, Nat.reduceMul, Nat.reduceLT, Int.reduceToNat, Int.reduceAdd, Int.reduceSub, Int.reduceMul, rsU, s_ldI, s_ldU, s_ldS, s_ldP, s_gtI, s_gtU, s_gtS, s_bleD, Nat.reduceLeDiff, decide_true, decide_false]) ?_
 refine Ok_some.2 ⟨rfl, L1.trans ⟨by show σ1.next ≤ σ2.next; omega, fun k hk => ?_⟩, some (.n b, 0), a', ?_, .inr rfl, ?_, fun k hk => by have := g4 k hk; omega, by show b < σ2.next; omega⟩
 ·show (σ2.put b _).blk k = _
  rw [s_bn (by omega), g3.blk k (by omega) (fun hm => by have := fr _ hm; omega)]
 ·rw [List.length_append]; exact s_bs
 ·rw [List.length_append, List.map_append]
  exact g2.of (Nat.le_refl _) fun k hk => by have := g4 k hk; exact s_bn (by omega)
theorem asB2U (l : Bs) : asB2 (l.map fun c => .i .u8 (c.toNat : Int)) = some l := asB2_map l
theorem bstring_ok {σ : AH O} {b : Nat} {l : Bs} (h : BldS σ b l) (h0 : l ≠ []) : Ok (__strings_Builder__String [.p (some (.n b, 0))] σ) fun r => r.1 = .s l ∧ Low b σ r.2 := by
 obtain ⟨q, a, h1, h2, h3, h4, h5⟩ := h
 have hl : l.length ≠ 0 := fun e => h0 (List.eq_nil_of_length_eq_zero e)
 obtain ⟨k, rfl, c1, n1⟩ := h3.loc hl
 have hk := h4 k (by simp [SA.bk])
 have e1 : (Nat.beq 54 54 && !Nat.beq l.length 0 && !Nat.beq k b) = true := by
  have e2 : Nat.beq l.length 0 = false := Bool.eq_false_iff.2 fun h => hl (Nat.eq_of_beq_eq_true h)
  have e3 : Nat.beq k b = false := Bool.eq_false_iff.2 fun h => by have := Nat.eq_of_beq_eq_true h; omega
  rw [e2, e3]; rfl
 have e2 : (Nat.beq 5 5 && Nat.ble (0 + l.length) (l.map fun c => (.i .u8 (c.toNat : Int) : AV)).length) = true := by
  rw [List.length_map, Nat.zero_add, Nat.ble_eq_true_of_le (Nat.le_refl _)]; rfl
 have e3 : ((l.map fun c => (.i .u8 (c.toNat : Int) : AV)).drop 0).take l.length = l.map fun c => (.i .u8 (c.toNat : Int) : AV) := by rw [List.drop_zero, List.take_of_length_le (by simp)]
 refine Ok_of (r := (.s l, σ.kill k)) (by simp only [__strings_Builder__String, h1, e1, cond_true, c1, e2, e3, asB2U, Option.bind_some]) ⟨rfl, Nat.le_refl _, fun j hj => ?_⟩
 show (σ.kill k).blk j = _
 rw [kill_blk, if_neg (by omega)]
end Go.Abs.Tryd
namespace Go.Abs.Tryd
open Go Go.Abs
variable {O : Type}
theorem nums_few {l : List Int} (hr : ∀ n ∈ l, I64 n) : (joinS 32 (l.map numT)).length ≤ l.length * 22 := by
 have := joinS_few 32 (m := 21) (ws := l.map numT) fun w hw => by
  obtain ⟨n, hn, rfl⟩ := List.mem_map.1 hw
  exact numT_few (hr n hn)
 simpa using this
theorem digs_ne (u : Nat) : digs u ≠ [] := by
 unfold digs; split <;> simp
theorem numT_ne (n : Int) : numT n ≠ [] := by
 unfold numT; split
 ·simp
 ·exact digs_ne _
theorem gdlist_ok {σ : AH O} {c : SA} {l : List Int} (hc : Ints .i64 c l) (hr : ∀ n ∈ l, I64 n) (h0 : l ≠ []) (hl : l.length ≤ 1200) :
  Ok (digits_List [.sl c l.length] σ) fun r => r.1 = .s (joinS 32 (l.map numT)) ∧ Ext σ r.2 := by
 unfold digits_List digits_List_c
 refine Ok.cT rfl ?_
 refine Ok.to (x := (c, l.length)) rfl ?_
 have B0 : BldS ((σ.bump 1).put σ.next (.cells true 54 [.p none, .sl .nil 0])) σ.next [] := BldS.new s_bs (by simp)
 have L0 : Low σ.next σ ((σ.bump 1).put σ.next (.cells true 54 [.p none, .sl .nil 0])) := ⟨by simp, fun k hk => by rw [s_bn (by omega)]; rfl⟩
 refine Ok.step (Q := fun r => r.1 = [] ∧ Low σ.next σ r.2 ∧ BldS r.2 σ.next (joinS 32 (l.map numT))) ?_ ?_
 ·refine Ok.count l.length (fun k q => ∃ σ', q = ([.i .i64 (k : Int)], σ') ∧ Low σ.next σ σ' ∧ BldS σ' σ.next (joinS 32 ((l.take k).map numT))) ?_ ?_ ⟨_, rfl, L0, by simpa [joinS] using B0⟩
  ·rintro k _ hk ⟨σ', rfl, L, B⟩
   have hx : l[k]? = some l[k] := List.getElem?_eq_getElem hk
   have hm := hr _ (List.getElem_mem hk)
   have htk : l.take (k + 1) = l.take k ++ [l[k]] := by rw [List.take_add_one, hx]; rfl
   have few := nums_few (l := l.take k) fun n hn => hr n (List.mem_of_mem_take hn)
   have ltk : (l.take k).length = k := by rw [List.length_take]; omega
   have ne : k ≠ 0 → (l.take k).map numT ≠ [] := fun h e => h (by have := congrArg List.length e; rw [List.length_map, ltk] at this; exact this)
   have z0 : k = 0 → joinS 32 ((l.take k).map numT) = [] := fun h => by subst h; rfl
   generalize l[k] = x at *
   obtain ⟨bb, oo, r1, ld⟩ := ints_ld hc hx
   have ld := ld O σ'
   have hfx := numT_few hm
   have dk : decide ((k : Int) < (l.length : Int)) = true := decide_eq_true (by omega)
   have d0 : decide ((0 : Int) ≤ (k : Int)) = true := decide_eq_true (by omega)
   have e1 : IntKind.i64.wrap ((k : Int) + 1) = ((k + 1 : Nat) : Int) := by rw [i64_id (by omega) (by omega)]; omega
   refine Ok.to (x := (k : Int)) rfl ?_
   refine Ok.cT dk ?_
   refine Ok.cT (by rw [d0, dk]; rfl) ?_
   refine Ok.to (x := (bb, oo)) r1 ?_
   refine Ok.to (x := .i .i64 x) (by rw [Int.toNat_natCast, Nat.mul_one]; exact ld) (Ok.to (x := x) rfl ?_)
   generalize hj : joinS 32 ((l.take k).map numT) = j at *
   refine Ok.step (Q := fun r => r.1 = [] ∧ Low σ.next σ r.2 ∧ BldS r.2 σ.next (if k = 0 then [] else j ++ [32])) ?_ ?_
   ·by_cases h : k = 0
    ·refine Ok.cF (decide_eq_false (by omega)) (Ok_some.2 ⟨rfl, L, ?_⟩)
     rw [if_pos h, ← z0 h]; exact B
    ·refine Ok.cT (decide_eq_true (by omega)) ?_
     refine Ok.step (bbyte_ok (c := 32) B (by omega)) ?_
     rintro ⟨v, σ3⟩ ⟨_, L3, B3⟩
     exact Ok_some.2 ⟨rfl, L.trans L3, by rw [if_neg h]; exact B3⟩
   ·rintro ⟨v, σ3⟩ ⟨v1, L3, B3⟩
    simp only at v1 L3 B3
    subst v1
    refine Ok.step (gText_ok hm) ?_
    rintro ⟨v, σ4⟩ ⟨v1, E4⟩
    simp only at v1 E4
    subst v1
    refine Ok.to (x := numT x) rfl ?_
    have hl3 : (if k = 0 then [] else j ++ [(32 : UInt8)]).length ≤ 100000 := by split <;> simp <;> omega
    refine Ok.step (bstr_ok (B3.ext E4) (s := numT x) (by omega)) ?_
    rintro ⟨v, σ5⟩ ⟨v1, L5, B5⟩
    simp only at v1 L5 B5
    subst v1
    refine Ok.to (x := [.i .i64 (numT x).length, .nifc]) rfl ?_
    refine Ok.to (x := ((numT x).length : Int)) rfl ?_
    refine Ok_some.2 ⟨σ5, by rw [e1], (L3.trans (Low.of L3.next E4)).trans L5, ?_⟩
    have : joinS 32 ((l.take (k + 1)).map numT) = (if k = 0 then [] else j ++ [32]) ++ numT x := by
     rw [htk, List.map_append]
     by_cases h : k = 0
     ·subst h; simp [joinS]
     ·rw [if_neg h, List.map_singleton, joinS_snoc 32 _ (ne h), hj]; simp
    rw [this]; exact B5
  ·rintro _ ⟨σ', rfl, L, B⟩
   refine Ok.to (x := (l.length : Int)) rfl ?_
   refine Ok.cF (decide_eq_false (by omega)) (Ok_some.2 ⟨rfl, L, ?_⟩)
   rw [List.take_length] at B; exact B
 rintro ⟨v, σ2⟩ ⟨v1, L, B⟩
 simp only at v1 L B
 subst v1
 have ne : joinS 32 (l.map numT) ≠ [] := by
  cases l with
  | nil => exact absurd rfl h0
  | cons x l => rw [List.map_cons, joinS_add]; simp [numT_ne]
 refine Ok.step (bstring_ok B ne) ?_
 rintro ⟨v, σ3⟩ ⟨v1, L3⟩
 simp only at v1 L3
 subst v1
 refine Ok.to (x := joinS 32 (l.map numT)) rfl ?_
 exact Ok_some.2 ⟨rfl, (L.trans L3).next, fun k hk => (L.trans L3).blk k hk⟩
theorem gnumbers_ok {σ : AH O} {w : Bs} {c : SA} {l : List Int} (hc : Ints .i64 c l) (hr : ∀ n ∈ l, I64 n) (hl : l.length ≤ 1200) (hw : w.length ≤ 100) :
  Ok (lines_numbers [.s w, .sl c l.length] σ) fun r => r.1 = .s (lnumsT w l) ∧ Ext σ r.2 := by
 unfold lines_numbers lines_numbers_c
 refine Ok.cT rfl ?_
 refine Ok.to (x := w) rfl ?_
 refine Ok.to (x := (c, l.length)) rfl ?_
 by_cases h0 : l = []
 ·subst h0
  refine Ok.cT rfl (Ok_some.2 ⟨rfl, Ext.refl _⟩)
 ·have hn : l.length ≠ 0 := fun e => h0 (List.eq_nil_of_length_eq_zero e)
  refine Ok.cF (by simpa using h0) ?_
  refine Ok.cT (Nat.ble_eq_true_of_le (show w.length + 1 ≤ _ by omega)) ?_
  refine Ok.step (gdlist_ok hc hr h0 hl) ?_
  rintro ⟨v, σ2⟩ ⟨v1, E⟩
  simp only at v1 E
  subst v1
  have few := nums_few hr
  refine Ok.to (x := joinS 32 (l.map numT)) rfl ?_
  refine Ok.cT (Nat.ble_eq_true_of_le (by simp; omega)) ?_
  refine Ok_some.2 ⟨?_, E⟩
  have : lnumsT w l = w ++ [32] ++ joinS 32 (l.map numT) := by
   unfold lnumsT
   rw [joinS_cons 32 w (by simpa using h0)]; simp
  rw [this]
theorem lnumsT_few {w : Bs} {l : List Int} (hr : ∀ n ∈ l, I64 n) (hl : l.length ≤ 1200) (hw : w.length ≤ 21) : (lnumsT w l).length ≤ 30000 := by
 have := joinS_few 32 (m := 21) (ws := w :: l.map numT) fun u hu => by
  rcases List.mem_cons.1 hu with rfl | hu
  ·exact hw
  ·obtain ⟨n, hn, rfl⟩ := List.mem_map.1 hu
   exact numT_few (hr n hn)
 simp only [List.length_cons, List.length_map] at this
 unfold lnumsT; omega
end Go.Abs.Tryd
