/-
  A text is read, the document's way: haymowref46.Parse. No conditions.
-/
import Derived.Test.YtgddikandbkmpaaDoorU16
set_option linter.unusedVariables false
set_option linter.unusedSimpArgs false
set_option linter.constructorNameAsVariable false
set_option linter.unusedSimpArgs false
set_option linter.unusedVariables false
set_option maxHeartbeats 2000000
namespace Go.Abs.Tryd
open Go Go.Abs
variable {O : Type}
theorem rbegins_ok {σ : AH O} {s : Bs} : Ok (haymowref46_begins [.s s] σ) fun r => r = (.b (begins s), σ) := by
 unfold haymowref46_begins haymowref46_begins_c
 refine Ok.cT rfl ?_
 refine Ok.to (x := s) rfl ?_
 refine Ok.step (Q := fun r => r = ([.b (begins s)], σ)) ?_ ?_
 ·by_cases h : 4 ≤ s.length
  ·refine Ok.cT (by rw [decide_eq_true (show (s.length : Int) ≥ 4 by omega)]; rfl) ?_
   refine Ok.cT (decide_eq_true (by omega)) ?_
   refine Ok_some.2 ?_
   have : begins s = (((s.drop 0).take (4 - 0)) == ([110, 111, 100, 101] : List UInt8)) := by
    unfold begins
    rw [List.drop_zero]
    by_cases e : s.take 4 = nodeB
    ·rw [decide_eq_true e, show 4 - 0 = 4 from rfl, e]; rfl
    ·rw [decide_eq_false e]; exact (beq_eq_false_iff_ne.2 e).symm
   rw [this]
  ·refine Ok.cF (by rw [decide_eq_false (show ¬ (s.length : Int) ≥ 4 by omega)]; rfl) (Ok_some.2 ?_)
   have : begins s = false := decide_eq_false fun e => by
    have := congrArg List.length e
    rw [List.length_take] at this
    have e4 : nodeB.length = 4 := rfl
    omega
   rw [this]
 ·rintro _ rfl
  exact Ok.to (x := begins s) rfl (Ok_some.2 rfl)
theorem XLrl_ok {σ h h7 : AH O} {r3 : AV × AH O} {B0 Bn Bf M : Nat} (hB0 : h.next = B0) (hBn : r3.2.next = Bn) (hBf : h7.next = Bf) (hlt : B0 < Bn) (hlt2 : Bn < Bf) {A : SA} {L : List Bs} (hA : Strs A L) (hf : ∀ s ∈ L, s.length ≤ M) (hM : M ≤ 90000) (hn : L.length ≤ 1000000)
  (b0 : σ.blk B0 = some (.cells true 30 [.sl .nil 0, .sl .nil 0, .sl .nil 0])) (bn : σ.blk Bn = some (.cells true 30 [.sl .nil 0, .sl .nil 0, .sl .nil 0])) (bf : σ.blk Bf = some (.cells true 30 [.sl .nil 0, .sl .nil 0, .sl .nil 0])) (nf : Bf < σ.next) :
  Ok (loopF (S := List AV × AH O) (T := (List AV × AH O) ⊕ (AV × AH O)) (haymowref46_Parse_L1 (A, L.length) haymowref46_begins haymowref46_readNode r3 h h7) ([.i .i64 0], σ)) fun r => match r with
   | .inl q => ∃ (k : Nat) (N : List NV) (a : SA) (vs : List AV), lgoN 0 [] L = .inl (N, k, L.drop k) ∧ k ≤ L.length ∧ N.length ≤ k ∧ (∀ x ∈ N, x.P.length ≤ M ∧ x.R.length ≤ M) ∧ q.1 = [.i .i64 (k : Int)] ∧ q.2.blk Bf = some (.cells true 30 [.sl a N.length, .sl .nil 0, .sl .nil 0]) ∧ OwnS q.2 50 7 a N.length vs ∧ ImL (N.flatMap NV.row) vs ∧ (∀ b ∈ SA.bk a, Bf < b) ∧ Low Bf σ q.2
   | .inr q => ∃ m : Nat, lgoN 0 [] L = .inr m ∧ q.1 = .tup [.agg [.sl .nil 0, .sl .nil 0, .sl .nil 0], .i .i64 (m : Int), .i .i64 61] ∧ Low B0 σ q.2 := by
 refine Ok.count (L.length + 1) (fun k s => ∃ (N : List NV) (a : SA) (vs : List AV) (σ' : AH O), k ≤ L.length ∧ lgoN 0 [] L = lgoN k N (L.drop k) ∧ N.length ≤ k ∧ (∀ x ∈ N, x.P.length ≤ M ∧ x.R.length ≤ M) ∧ s = ([.i .i64 (k : Int)], σ') ∧ σ'.blk Bf = some (.cells true 30 [.sl a N.length, .sl .nil 0, .sl .nil 0]) ∧ OwnS σ' 50 7 a N.length vs ∧ ImL (N.flatMap NV.row) vs ∧ (∀ b ∈ SA.bk a, Bf < b) ∧ Low Bf σ σ') ?_ ?_ ⟨[], .nil, [], σ, Nat.zero_le _, rfl, Nat.le_refl _, by simp, rfl, bf, OwnS.nil _ _ _, .nil, by simp [SA.bk], Low.refl _ _⟩
 ·rintro k _ hk ⟨N, a, vs, σ', hkl, hgo, hNk, hNx, rfl, c1, own, im, fr, LW⟩
  have n1 := LW.next
  have c0 : σ'.blk B0 = some (.cells true 30 [.sl .nil 0, .sl .nil 0, .sl .nil 0]) := by rw [LW.blk _ (by omega)]; exact b0
  have cn : σ'.blk Bn = some (.cells true 30 [.sl .nil 0, .sl .nil 0, .sl .nil 0]) := by rw [LW.blk _ (by omega)]; exact bn
  refine Ok.to (x := (k : Int)) rfl ?_
  refine Ok.step (Q := fun r => ∃ b, r = ([.b b], σ') ∧ (b = true ↔ ∃ l, L[k]? = some l ∧ begins l = true)) ?_ ?_
  ·by_cases hkn : k < L.length
   ·have dk : decide ((k : Int) < (L.length : Int)) = true := decide_eq_true (by omega)
    have hx : L[k]? = some L[k] := List.getElem?_eq_getElem hkn
    generalize L[k] = l at *
    obtain ⟨bb, oo, r1, ld⟩ := strs_ref hA hx
    have ld := ld O σ'
    refine Ok.cT (by rw [dk]; rfl) ?_
    refine Ok.cT (by rw [dk, decide_eq_true (show (0 : Int) ≤ (k : Int) by omega)]; rfl) ?_
    refine Ok.to (x := (bb, oo)) r1 ?_
    refine Ok.to (x := .s l) (by rw [Int.toNat_natCast, Nat.mul_one]; exact ld) (Ok.to (x := l) rfl ?_)
    refine Ok.step rbegins_ok ?_
    rintro _ rfl
    refine Ok.to (x := begins l) rfl (Ok_some.2 ⟨_, rfl, ?_⟩)
    rw [hx]
    exact ⟨fun h => ⟨l, rfl, h⟩, fun ⟨_, e, h⟩ => by rw [Option.some.inj e]; exact h⟩
   ·have dk : decide ((k : Int) < (L.length : Int)) = false := decide_eq_false (by omega)
    refine Ok.cF (by rw [dk]; rfl) (Ok_some.2 ⟨false, rfl, ?_⟩)
    rw [List.getElem?_eq_none (by omega)]; simp
  ·rintro _ ⟨b, rfl, hb⟩
   refine Ok.to (x := b) rfl ?_
   cases b with
   | false =>
    refine Ok.cF rfl (Ok_some.2 ⟨k, N, a, vs, ?_, hkl, hNk, hNx, rfl, c1, own, im, fr, LW⟩)
    rw [hgo]
    cases hd : L.drop k with
    | nil => rfl
    | cons l ls =>
     have hx : L[k]? = some l := by have := congrArg List.head? hd; rwa [List.head?_drop] at this
     have hnb : begins l = false := by
      cases e : begins l with
      | false => rfl
      | true => cases hb.2 ⟨l, hx, e⟩
     simp only [lgoN, hnb]; rfl
   | true =>
    obtain ⟨l, hx, hbl⟩ := hb.1 rfl
    have hkn : k < L.length := (List.getElem?_eq_some_iff.1 hx).1
    have hgo2 : lgoN 0 [] L = match lnodeR (cutB 32 l) with | none => .inr (k + 1) | some x => lgoN (k + 1) (N ++ [x]) (L.drop (k + 1)) := by
     rw [hgo, drop_some hx]
     simp only [lgoN, hbl, if_true]; rfl
    have hl := hf l (List.mem_of_getElem? hx)
    obtain ⟨bb, oo, r1, ld⟩ := strs_ref hA hx
    have ld := ld O (σ'.bump 1)
    have dk : decide ((k : Int) < (L.length : Int)) = true := decide_eq_true (by omega)
    refine Ok.cT rfl ?_
    refine Ok.cT (by rw [dk, decide_eq_true (show (0 : Int) ≤ (k : Int) by omega)]; rfl) ?_
    refine Ok.to (x := (bb, oo)) r1 ?_
    refine Ok.to (x := .s l) (by rw [Int.toNat_natCast, Nat.mul_one]; exact ld) (Ok.to (x := l) rfl ?_)
    have hcl := cut_len 32 l
    refine Ok.step (rReadNode_ok (show l.length ≤ 999999 by omega)) ?_
    rintro ⟨v, σ3⟩ ⟨v1, E3⟩
    simp only at v1 E3
    have n3 : σ'.next + 1 ≤ σ3.next := by simpa using E3.next
    have q3 : ∀ b, b < σ'.next → σ3.blk b = σ'.blk b := fun b hb => E3.blk b (by simp; omega)
    cases hR : lnodeR (cutB 32 l) with
    | none =>
     rw [hR] at v1 hgo2
     have v1 : v = _ := v1
     subst v1
     have c3 : ∀ y, (σ3.put σ'.next y).blk B0 = some (.cells true 30 [.sl .nil 0, .sl .nil 0, .sl .nil 0]) := fun y => by rw [s_bn (by omega), q3 _ (by omega)]; exact c0
     have c3n : ∀ y, (σ3.put σ'.next y).blk Bn = some (.cells true 30 [.sl .nil 0, .sl .nil 0, .sl .nil 0]) := fun y => by rw [s_bn (by omega), q3 _ (by omega)]; exact cn
     have e1 : IntKind.i64.wrap ((k : Int) + 1) = ((k + 1 : Nat) : Int) := by rw [i64_id (by omega) (by omega)]; omega
     simp -implicitDefEqProofs only [hB0, hBn, Bool.not_false, c3, c3n, e1, Nat.reduceAdd, Nat.reduceMul, Nat.reduceLT, Int.reduceToNat, Int.reduceAdd, Int.reduceSub, Int.reduceMul, rsU, s_ldI, s_ldU, s_ldS, s_ldP, s_gtI, s_gtU, s_gtS, s_bleD, Nat.reduceLeDiff, decide_true, decide_false]
     refine Ok_some.2 ⟨k + 1, hgo2, rfl, ⟨by show σ.next ≤ σ3.next; omega, fun b hb => ?_⟩⟩
     show ((σ3.put σ'.next _).put B0 _).blk b = _
     rw [s_bn (by omega), s_bn (by omega), q3 _ (by omega), LW.blk _ (by omega)]
    | some x =>
     rw [hR] at v1 hgo2
     obtain ⟨cc, dd, rfl, ic, id⟩ := v1
     have hback := lnodeR_back hR
     have hlen : (lnodeW x).length = 4 + x.P.length + (x.R.length + 1) := by simp [lnodeW]; omega
     rw [hback.1] at hlen
     refine Ok.to (x := [.agg (x.cells cc dd), .b true]) rfl ?_
     refine Ok.to (x := x.cells cc dd) rfl ?_
     refine Ok.to (x := x.h.p) rfl ?_
     refine Ok.to (x := x.h.r) rfl ?_
     refine Ok.to (x := x.h.site) rfl ?_
     refine Ok.to (x := x.h.age) rfl ?_
     refine Ok.to (x := x.h.large) rfl ?_
     refine Ok.to (x := (cc, x.P.length)) rfl ?_
     refine Ok.to (x := (dd, x.R.length)) rfl ?_
     refine Ok.to (x := true) rfl ?_
     generalize hσ4 : σ3.put σ'.next (.cells true 50 [.i .i64 x.h.p, .i .i64 x.h.r, .i .i64 x.h.site, .i .i64 x.h.age, .b x.h.large, .sl cc x.P.length, .sl dd x.R.length]) = σ4
     have hst : (σ3.put σ'.next (.cells true 50 [.i .i64 0, .i .i64 0, .i .i64 0, .i .i64 0, .b false, .sl .nil 0, .sl .nil 0])).st (.n σ'.next) 0 [.i .i64 x.h.p, .i .i64 x.h.r, .i .i64 x.h.site, .i .i64 x.h.age, .b x.h.large, .sl cc x.P.length, .sl dd x.R.length] = some σ4 := by
      rw [← hσ4]
      simp -implicitDefEqProofs only [Nat.reduceAdd, Nat.reduceMul, Nat.reduceLT, Int.reduceToNat, Int.reduceAdd, Int.reduceSub, Int.reduceMul, rsU, s_ldI, s_ldU, s_ldS, s_ldP, s_gtI, s_gtU, s_gtS, s_bleD, Nat.reduceLeDiff, decide_true, decide_false]
     refine Ok.to (x := σ4) hst ?_
     have d4 : σ4.blk σ'.next = some (.cells true 50 [.i .i64 x.h.p, .i .i64 x.h.r, .i .i64 x.h.site, .i .i64 x.h.age, .b x.h.large, .sl cc x.P.length, .sl dd x.R.length]) := by rw [← hσ4]; exact s_bs
     have q4 : ∀ b, b < σ'.next → σ4.blk b = σ'.blk b := fun b hb => by rw [← hσ4, s_bn (by omega)]; exact q3 b hb
     have n4 : σ4.next = σ3.next := by rw [← hσ4]; rfl
     have c4 : σ4.blk Bf = some (.cells true 30 [.sl a N.length, .sl .nil 0, .sl .nil 0]) := by rw [q4 _ (by omega)]; exact c1
     refine Ok.cF rfl ?_
     refine Ok.to (x := .sl a N.length) (by simp -implicitDefEqProofs only [hBf, c4, Nat.reduceAdd, Nat.reduceMul, Nat.reduceLT, Int.reduceToNat, Int.reduceAdd, Int.reduceSub, Int.reduceMul, rsU, s_ldI, s_ldU, s_ldS, s_ldP, s_gtI, s_gtU, s_gtS, s_bleD, Nat.reduceLeDiff, decide_true, decide_false]) (Ok.to (x := (a, N.length)) rfl ?_)
     refine Ok.to (x := .i .i64 x.h.p) (by simp -implicitDefEqProofs only [d4, Nat.reduceAdd, Nat.reduceMul, Nat.reduceLT, Int.reduceToNat, Int.reduceAdd, Int.reduceSub, Int.reduceMul, rsU, s_ldI, s_ldU, s_ldS, s_ldP, s_gtI, s_gtU, s_gtS, s_bleD, Nat.reduceLeDiff, decide_true, decide_false]) (Ok.to (x := x.h.p) rfl ?_)
     refine Ok.to (x := .i .i64 x.h.r) (by simp -implicitDefEqProofs only [d4, Nat.reduceAdd, Nat.reduceMul, Nat.reduceLT, Int.reduceToNat, Int.reduceAdd, Int.reduceSub, Int.reduceMul, rsU, s_ldI, s_ldU, s_ldS, s_ldP, s_gtI, s_gtU, s_gtS, s_bleD, Nat.reduceLeDiff, decide_true, decide_false]) (Ok.to (x := x.h.r) rfl ?_)
     refine Ok.to (x := .i .i64 x.h.site) (by simp -implicitDefEqProofs only [d4, Nat.reduceAdd, Nat.reduceMul, Nat.reduceLT, Int.reduceToNat, Int.reduceAdd, Int.reduceSub, Int.reduceMul, rsU, s_ldI, s_ldU, s_ldS, s_ldP, s_gtI, s_gtU, s_gtS, s_bleD, Nat.reduceLeDiff, decide_true, decide_false]) (Ok.to (x := x.h.site) rfl ?_)
     refine Ok.to (x := .i .i64 x.h.age) (by simp -implicitDefEqProofs only [d4, Nat.reduceAdd, Nat.reduceMul, Nat.reduceLT, Int.reduceToNat, Int.reduceAdd, Int.reduceSub, Int.reduceMul, rsU, s_ldI, s_ldU, s_ldS, s_ldP, s_gtI, s_gtU, s_gtS, s_bleD, Nat.reduceLeDiff, decide_true, decide_false]) (Ok.to (x := x.h.age) rfl ?_)
     refine Ok.to (x := .b x.h.large) (by simp -implicitDefEqProofs only [d4, Nat.reduceAdd, Nat.reduceMul, Nat.reduceLT, Int.reduceToNat, Int.reduceAdd, Int.reduceSub, Int.reduceMul, rsU, s_ldI, s_ldU, s_ldS, s_ldP, s_gtI, s_gtU, s_gtS, s_bleD, Nat.reduceLeDiff, decide_true, decide_false]) (Ok.to (x := x.h.large) rfl ?_)
     refine Ok.to (x := .sl cc x.P.length) (by simp -implicitDefEqProofs only [d4, Nat.reduceAdd, Nat.reduceMul, Nat.reduceLT, Int.reduceToNat, Int.reduceAdd, Int.reduceSub, Int.reduceMul, rsU, s_ldI, s_ldU, s_ldS, s_ldP, s_gtI, s_gtU, s_gtS, s_bleD, Nat.reduceLeDiff, decide_true, decide_false]) (Ok.to (x := (cc, x.P.length)) rfl ?_)
     refine Ok.to (x := .sl dd x.R.length) (by simp -implicitDefEqProofs only [d4, Nat.reduceAdd, Nat.reduceMul, Nat.reduceLT, Int.reduceToNat, Int.reduceAdd, Int.reduceSub, Int.reduceMul, rsU, s_ldI, s_ldU, s_ldS, s_ldP, s_gtI, s_gtU, s_gtS, s_bleD, Nat.reduceLeDiff, decide_true, decide_false]) (Ok.to (x := (dd, x.R.length)) rfl ?_)
     refine Ok.to (x := [.i .i64 x.h.p, .i .i64 x.h.r, .i .i64 x.h.site, .i .i64 x.h.age, .b x.h.large, .sl cc x.P.length, .sl dd x.R.length]) (rdNewN rfl) ?_
     refine Ok.cT (Nat.ble_eq_true_of_le (show (N.length + 1) * 89 ≤ _ by omega)) ?_
     have hlt' := own.lt
     have own4 : OwnS σ4 50 7 a N.length vs := own.of (by omega) fun b hb => q4 b (hlt' b hb)
     refine Ok.step (growV own4 rfl) ?_
     rintro ⟨v, σ5⟩ ⟨a2, v1, g2, g3, g4⟩
     simp only at v1 g2 g3 g4
     subst v1
     refine Ok.to (x := (a2, N.length + 1)) rfl ?_
     have n5 := g3.next
     have c5 : σ5.blk Bf = some (.cells true 30 [.sl a N.length, .sl .nil 0, .sl .nil 0]) := by rw [g3.blk _ (by omega) (fun hm => by have := fr _ hm; omega)]; exact c4
     refine Ok.to (x := σ5.put Bf (.cells true 30 [.sl a2 (N.length + 1), .sl .nil 0, .sl .nil 0])) (by simp -implicitDefEqProofs only [hBf, c5, Nat.reduceAdd, Nat.reduceMul, Nat.reduceLT, Int.reduceToNat, Int.reduceAdd, Int.reduceSub, Int.reduceMul, rsU, s_ldI, s_ldU, s_ldS, s_ldP, s_gtI, s_gtU, s_gtS, s_bleD, Nat.reduceLeDiff, decide_true, decide_false]) ?_
     have e1 : IntKind.i64.wrap ((k : Int) + 1) = ((k + 1 : Nat) : Int) := by rw [i64_id (by omega) (by omega)]; omega
     have ln : (N ++ [x]).length = N.length + 1 := by simp
     refine Ok_some.2 ⟨N ++ [x], a2, vs ++ [.i .i64 x.h.p, .i .i64 x.h.r, .i .i64 x.h.site, .i .i64 x.h.age, .b x.h.large, .sl cc x.P.length, .sl dd x.R.length], _, hkn, hgo2, by omega, ?_, by rw [e1], by rw [ln]; exact s_bs, ?_, ?_, fun b hb => by have := g4 b hb; omega, LW.trans ⟨by show σ'.next ≤ σ5.next; omega, fun b hb => ?_⟩⟩
     ·intro y hy
      rcases List.mem_append.1 hy with hy | hy
      ·exact hNx y hy
      ·rw [List.mem_singleton.1 hy]; omega
     ·rw [ln]
      exact g2.of (Nat.le_refl _) fun b hb => by have := g4 b hb; exact s_bn (by omega)
     ·rw [List.flatMap_append, List.flatMap_singleton]
      exact im.app (nodeA_rows ic id)
     ·rw [s_bn (by omega), g3.blk _ (by omega) (fun hm => by have := fr _ hm; omega), q4 _ (by omega)]
 ·rintro _ ⟨N, a, vs, σ', hkl, _⟩
  omega
theorem rtail0 {σ h h7 : AH O} {r3 : AV × AH O} {B0 Bn Bf at' : Nat} (hB0 : h.next = B0) (hBn : r3.2.next = Bn) (hBf : h7.next = Bf) {A : SA} {L : List Bs} (hA : Strs A L) (hf : ∀ s ∈ L, s.length ≤ 100000) (hn : L.length ≤ 1000000) (hat : at' ≤ L.length)
  {x0 x1 x2 : AV} (b0 : σ.blk B0 = some (.cells true 30 [.sl .nil 0, .sl .nil 0, .sl .nil 0])) (bn : σ.blk Bn = some (.cells true 30 [.sl .nil 0, .sl .nil 0, .sl .nil 0])) (bf : σ.blk Bf = some (.cells true 30 [x0, x1, x2])) (h1 : B0 < Bn) (h2 : Bn < Bf) (h3 : Bf < σ.next) :
  Ok (haymowref46_Parse_L2 (A, L.length) r3 h haymowref03_Cut haymowref46_numbers h7 ([.i .i64 (at' : Int), .i .i64 0], σ)) fun r => match (L[at']?).bind (lnumL rootsB) with
   | none => ∃ σ2, r = .inr (.inr (.tup [.agg [.sl .nil 0, .sl .nil 0, .sl .nil 0], .i .i64 ((at' + 1 : Nat) : Int), .i .i64 61], σ2)) ∧ Low B0 σ σ2
   | some l => ∃ e σ2, r = .inl ([.i .i64 ((at' + 1 : Nat) : Int), .i .i64 1], σ2) ∧ Ints .i64 e l ∧ Chg [Bf] σ σ2 ∧ σ2.blk Bf = some (.cells true 30 [x0, .sl e l.length, x2]) := by
 have e1 : IntKind.i64.wrap ((at' : Int) + 1) = ((at' + 1 : Nat) : Int) := by rw [i64_id (by omega) (by omega)]; omega
 have t1 : (true == true) = true := rfl
 have t2 : (false == true) = false := rfl
 have t3 : (true == false) = false := rfl
 have t4 : (false == false) = true := rfl
 refine Ok.to (x := (at' : Int)) rfl ?_
 refine Ok.to (x := 0) rfl ?_
 refine Ok.cT rfl ?_
 by_cases hk : at' < L.length
 ·have dk : decide ((at' : Int) ≥ (L.length : Int)) = false := decide_eq_false (by omega)
  have dk' : decide ((at' : Int) < (L.length : Int)) = true := decide_eq_true (by omega)
  have hx : L[at']? = some L[at'] := List.getElem?_eq_getElem hk
  have hl := hf _ (List.getElem_mem hk)
  generalize L[at'] = s at *
  rw [hx]
  obtain ⟨bb, oo, r1, ld⟩ := strs_ref hA hx
  have ld := ld O σ
  refine Ok.cF dk ?_
  refine Ok.cT (by rw [dk', decide_eq_true (show (0 : Int) ≤ (at' : Int) by omega)]; rfl) ?_
  refine Ok.to (x := (bb, oo)) r1 ?_
  refine Ok.to (x := .s s) (by rw [Int.toNat_natCast, Nat.mul_one]; exact ld) (Ok.to (x := s) rfl ?_)
  refine Ok.step (rCut_ok (c := 32) (by omega)) ?_
  rintro ⟨v, σ2⟩ ⟨⟨A', v1, hA'⟩, E2⟩
  simp only at v1 E2
  subst v1
  show Ok _ fun r => match lnumL rootsB s with | none => _ | some l => _
  have hfx := fun v hv => cut_few (c := 32) (s := s) (w := v) (by omega) hv
  have hcl := cut_len 32 s
  have hLe : lnumL rootsB s = if (cutB 32 s).head? = some rootsB then lnumsR (cutB 32 s).tail else none := rfl
  cases hc : cutB 32 s with
  | nil => exact absurd hc (cutB_ne 32 s)
  | cons x ws =>
   have hA' : Strs A' (cutB 32 s) := hA'
   rw [hc] at hA' hfx hcl hLe
   obtain ⟨a2, r2, ha2⟩ := strs_tail hA'
   rw [List.length_cons] at hcl
   refine Ok.to (x := (A', (x :: ws).length)) rfl ?_
   refine Ok.cT (by rw [decide_eq_true (show (1 : Int) ≤ (((x :: ws).length : Nat) : Int) by rw [List.length_cons]; omega), decide_eq_true (Int.le_refl _)]; rfl) ?_
   refine Ok.to (x := a2) r2 ?_
   refine Ok.step (rnums_ok (σ := σ2) ha2 (fun v hv => Nat.le_trans (hfx v (List.mem_cons_of_mem _ hv)) (by omega)) (by omega)) ?_
   rintro ⟨v, σ3⟩ ⟨q1, E3⟩
   simp only at q1 E3
   have E := E2.trans E3
   have n3 := E.next
   have hLe' : lnumL rootsB s = if x = rootsB then lnumsR ws else none := by rw [hLe]; simp
   obtain ⟨A1, m1, k1', rfl, hk1, hk1'⟩ : ∃ A n k, v = .tup [.sl A n, .b k] ∧ (k = true → ∃ l, lnumsR ws = some l ∧ n = l.length ∧ Ints .i64 A l) ∧ (k = false → lnumsR ws = none) := by
    cases hR : lnumsR ws with
    | some l =>
     rw [hR] at q1
     obtain ⟨a', rfl, h2⟩ := q1
     exact ⟨_, _, _, rfl, fun _ => ⟨l, rfl, rfl, h2⟩, fun h => Bool.noConfusion h⟩
    | none =>
     rw [hR] at q1
     exact ⟨_, _, _, q1, fun h => Bool.noConfusion h, fun _ => rfl⟩
   refine Ok.to (x := [.sl A1 m1, .b k1']) rfl ?_
   refine Ok.to (x := (A1, m1)) rfl ?_
   refine Ok.to (x := k1') rfl ?_
   obtain ⟨b2, o2, r1', ld'⟩ := strs_ref hA' (k := 0) (w := x) rfl
   have ld' := ld' O σ3
   rw [Nat.add_zero] at ld'
   have dx : decide ((0 : Int) < (((x :: ws).length : Nat) : Int)) = true := decide_eq_true (by rw [List.length_cons]; omega)
   generalize (x :: ws).length = nx at *
   refine Ok.step (Q := fun r => r = ([.b (!k1' || !(x == rootsB))], σ3)) ?_ ?_
   ·cases k1' with
    | false => exact Ok.cF rfl (Ok_some.2 rfl)
    | true =>
     refine Ok.cT rfl ?_
     refine Ok.step (Q := fun r => r = ([.b (!(x == rootsB))], σ3)) ?_ (fun r h => ?_)
     ·refine Ok.cT rfl ?_
      refine Ok.cT dx ?_
      refine Ok.to (x := (b2, o2)) r1' ?_
      refine Ok.to (x := .s x) ld' (Ok.to (x := x) rfl ?_)
      exact Ok_some.2 rfl
     ·subst h
      exact Ok.to (x := !(x == rootsB)) rfl (Ok_some.2 (by simp))
   ·rintro _ rfl
    refine Ok.to (x := !k1' || !(x == rootsB)) rfl ?_
    refine Ok.step (Q := fun r => r = ([.b (!k1' || !(x == rootsB))], σ3)) ?_ ?_
    ·cases hb : (!k1' || !(x == rootsB)) with
     | true => exact Ok.cF rfl (Ok_some.2 rfl)
     | false =>
      refine Ok.cT rfl ?_
      refine Ok.step (Q := fun r => r = ([.b false], σ3)) (Ok.cF rfl (Ok_some.2 rfl)) (fun r h => ?_)
      subst h
      exact Ok.to (x := false) rfl (Ok_some.2 rfl)
    ·rintro _ rfl
     refine Ok.to (x := !k1' || !(x == rootsB)) rfl ?_
     cases hb : (!k1' || !(x == rootsB)) with
     | true =>
      have hN : lnumL rootsB s = none := by
       rw [hLe']
       cases k1' with
       | false => rw [hk1' rfl]; split <;> rfl
       | true => rw [if_neg (by simpa using hb)]
      rw [hN]
      have c0 : σ3.blk B0 = some (.cells true 30 [.sl .nil 0, .sl .nil 0, .sl .nil 0]) := by rw [E.blk _ (by omega)]; exact b0
      have cn : σ3.blk Bn = some (.cells true 30 [.sl .nil 0, .sl .nil 0, .sl .nil 0]) := by rw [E.blk _ (by omega)]; exact bn
      refine Ok.cT rfl ?_
      simp -implicitDefEqProofs only [hB0, hBn, c0, cn, e1, Nat.reduceAdd, Nat.reduceMul, Nat.reduceLT, Int.reduceToNat, Int.reduceAdd, Int.reduceSub, Int.reduceMul, rsU, s_ldI, s_ldU, s_ldS, s_ldP, s_gtI, s_gtU, s_gtS, s_bleD, Nat.reduceLeDiff, decide_true, decide_false]
      exact Ok_some.2 ⟨_, rfl, n3, fun b hb => by rw [s_bn (by omega), E.blk _ (by omega)]⟩
     | false =>
      have hb1 : k1' = true ∧ x = rootsB := by
       cases k1' with
       | false => cases hb
       | true => exact ⟨rfl, by simpa using hb⟩
      obtain ⟨rfl, hxW⟩ := hb1
      obtain ⟨l, g1, rfl, g2⟩ := hk1 rfl
      rw [hLe', if_pos hxW, g1]
      have c1 : σ3.blk Bf = some (.cells true 30 [x0, x1, x2]) := by rw [E.blk _ (by omega)]; exact bf
      refine Ok.cF rfl ?_
      refine Ok.step (Q := fun r => r = ([], σ3.put Bf (.cells true 30 [x0, .sl A1 l.length, x2]))) ?_ ?_
      ·refine Ok.cT rfl ?_
       refine Ok.to (x := σ3.put Bf (.cells true 30 [x0, .sl A1 l.length, x2])) (by simp -implicitDefEqProofs only [hBf, c1, Nat.reduceAdd, Nat.reduceMul, Nat.reduceLT, Int.reduceToNat, Int.reduceAdd, Int.reduceSub, Int.reduceMul, rsU, s_ldI, s_ldU, s_ldS, s_ldP, s_gtI, s_gtU, s_gtS, s_bleD, Nat.reduceLeDiff, decide_true, decide_false]) ?_
       exact Ok_some.2 rfl
      ·rintro _ rfl
       exact Ok_some.2 ⟨A1, σ3.put Bf (.cells true 30 [x0, .sl A1 l.length, x2]), by rw [e1]; rfl, g2, ⟨n3, fun b hb hne => by rw [s_bn (by simpa using hne), E.blk _ hb]⟩, s_bs⟩
 ·have dk : decide ((at' : Int) ≥ (L.length : Int)) = true := decide_eq_true (by omega)
  rw [List.getElem?_eq_none (by omega)]
  refine Ok.cT dk ?_
  simp -implicitDefEqProofs only [hB0, hBn, b0, bn, e1, Nat.reduceAdd, Nat.reduceMul, Nat.reduceLT, Int.reduceToNat, Int.reduceAdd, Int.reduceSub, Int.reduceMul, rsU, s_ldI, s_ldU, s_ldS, s_ldP, s_gtI, s_gtU, s_gtS, s_bleD, Nat.reduceLeDiff, decide_true, decide_false]
  exact Ok_some.2 ⟨_, rfl, Nat.le_refl _, fun b hb => s_bn (by omega)⟩
theorem rtail1 {σ h h7 : AH O} {r3 : AV × AH O} {B0 Bn Bf at' : Nat} (hB0 : h.next = B0) (hBn : r3.2.next = Bn) (hBf : h7.next = Bf) {A : SA} {L : List Bs} (hA : Strs A L) (hf : ∀ s ∈ L, s.length ≤ 100000) (hn : L.length ≤ 1000000) (hat : at' ≤ L.length)
  {x0 x1 x2 : AV} (b0 : σ.blk B0 = some (.cells true 30 [.sl .nil 0, .sl .nil 0, .sl .nil 0])) (bn : σ.blk Bn = some (.cells true 30 [.sl .nil 0, .sl .nil 0, .sl .nil 0])) (bf : σ.blk Bf = some (.cells true 30 [x0, x1, x2])) (h1 : B0 < Bn) (h2 : Bn < Bf) (h3 : Bf < σ.next) :
  Ok (haymowref46_Parse_L2 (A, L.length) r3 h haymowref03_Cut haymowref46_numbers h7 ([.i .i64 (at' : Int), .i .i64 1], σ)) fun r => match (L[at']?).bind (lnumL weakB) with
   | none => ∃ σ2, r = .inr (.inr (.tup [.agg [.sl .nil 0, .sl .nil 0, .sl .nil 0], .i .i64 ((at' + 1 : Nat) : Int), .i .i64 61], σ2)) ∧ Low B0 σ σ2
   | some l => ∃ e σ2, r = .inl ([.i .i64 ((at' + 1 : Nat) : Int), .i .i64 2], σ2) ∧ Ints .i64 e l ∧ Chg [Bf] σ σ2 ∧ σ2.blk Bf = some (.cells true 30 [x0, x1, .sl e l.length]) := by
 have e1 : IntKind.i64.wrap ((at' : Int) + 1) = ((at' + 1 : Nat) : Int) := by rw [i64_id (by omega) (by omega)]; omega
 have t1 : (true == true) = true := rfl
 have t2 : (false == true) = false := rfl
 have t3 : (true == false) = false := rfl
 have t4 : (false == false) = true := rfl
 refine Ok.to (x := (at' : Int)) rfl ?_
 refine Ok.to (x := 1) rfl ?_
 refine Ok.cT rfl ?_
 by_cases hk : at' < L.length
 ·have dk : decide ((at' : Int) ≥ (L.length : Int)) = false := decide_eq_false (by omega)
  have dk' : decide ((at' : Int) < (L.length : Int)) = true := decide_eq_true (by omega)
  have hx : L[at']? = some L[at'] := List.getElem?_eq_getElem hk
  have hl := hf _ (List.getElem_mem hk)
  generalize L[at'] = s at *
  rw [hx]
  obtain ⟨bb, oo, r1, ld⟩ := strs_ref hA hx
  have ld := ld O σ
  refine Ok.cF dk ?_
  refine Ok.cT (by rw [dk', decide_eq_true (show (0 : Int) ≤ (at' : Int) by omega)]; rfl) ?_
  refine Ok.to (x := (bb, oo)) r1 ?_
  refine Ok.to (x := .s s) (by rw [Int.toNat_natCast, Nat.mul_one]; exact ld) (Ok.to (x := s) rfl ?_)
  refine Ok.step (rCut_ok (c := 32) (by omega)) ?_
  rintro ⟨v, σ2⟩ ⟨⟨A', v1, hA'⟩, E2⟩
  simp only at v1 E2
  subst v1
  show Ok _ fun r => match lnumL weakB s with | none => _ | some l => _
  have hfx := fun v hv => cut_few (c := 32) (s := s) (w := v) (by omega) hv
  have hcl := cut_len 32 s
  have hLe : lnumL weakB s = if (cutB 32 s).head? = some weakB then lnumsR (cutB 32 s).tail else none := rfl
  cases hc : cutB 32 s with
  | nil => exact absurd hc (cutB_ne 32 s)
  | cons x ws =>
   have hA' : Strs A' (cutB 32 s) := hA'
   rw [hc] at hA' hfx hcl hLe
   obtain ⟨a2, r2, ha2⟩ := strs_tail hA'
   rw [List.length_cons] at hcl
   refine Ok.to (x := (A', (x :: ws).length)) rfl ?_
   refine Ok.cT (by rw [decide_eq_true (show (1 : Int) ≤ (((x :: ws).length : Nat) : Int) by rw [List.length_cons]; omega), decide_eq_true (Int.le_refl _)]; rfl) ?_
   refine Ok.to (x := a2) r2 ?_
   refine Ok.step (rnums_ok (σ := σ2) ha2 (fun v hv => Nat.le_trans (hfx v (List.mem_cons_of_mem _ hv)) (by omega)) (by omega)) ?_
   rintro ⟨v, σ3⟩ ⟨q1, E3⟩
   simp only at q1 E3
   have E := E2.trans E3
   have n3 := E.next
   have hLe' : lnumL weakB s = if x = weakB then lnumsR ws else none := by rw [hLe]; simp
   obtain ⟨A1, m1, k1', rfl, hk1, hk1'⟩ : ∃ A n k, v = .tup [.sl A n, .b k] ∧ (k = true → ∃ l, lnumsR ws = some l ∧ n = l.length ∧ Ints .i64 A l) ∧ (k = false → lnumsR ws = none) := by
    cases hR : lnumsR ws with
    | some l =>
     rw [hR] at q1
     obtain ⟨a', rfl, h2⟩ := q1
     exact ⟨_, _, _, rfl, fun _ => ⟨l, rfl, rfl, h2⟩, fun h => Bool.noConfusion h⟩
    | none =>
     rw [hR] at q1
     exact ⟨_, _, _, q1, fun h => Bool.noConfusion h, fun _ => rfl⟩
   refine Ok.to (x := [.sl A1 m1, .b k1']) rfl ?_
   refine Ok.to (x := (A1, m1)) rfl ?_
   refine Ok.to (x := k1') rfl ?_
   obtain ⟨b2, o2, r1', ld'⟩ := strs_ref hA' (k := 0) (w := x) rfl
   have ld' := ld' O σ3
   rw [Nat.add_zero] at ld'
   have dx : decide ((0 : Int) < (((x :: ws).length : Nat) : Int)) = true := decide_eq_true (by rw [List.length_cons]; omega)
   generalize (x :: ws).length = nx at *
   refine Ok.step (Q := fun r => r = ([.b (!k1' || false)], σ3)) ?_ ?_
   ·cases k1' with
    | false => exact Ok.cF rfl (Ok_some.2 rfl)
    | true =>
     refine Ok.cT rfl ?_
     refine Ok.step (Q := fun r => r = ([.b false], σ3)) (Ok.cF rfl (Ok_some.2 rfl)) (fun r h => ?_)
     subst h
     exact Ok.to (x := false) rfl (Ok_some.2 rfl)
   ·rintro _ rfl
    refine Ok.to (x := !k1' || false) rfl ?_
    refine Ok.step (Q := fun r => r = ([.b (!k1' || !(x == weakB))], σ3)) ?_ ?_
    ·cases k1' with
     | false => exact Ok.cF rfl (Ok_some.2 rfl)
     | true =>
      refine Ok.cT rfl ?_
      refine Ok.step (Q := fun r => r = ([.b (!(x == weakB))], σ3)) ?_ (fun r h => ?_)
      ·refine Ok.cT rfl ?_
       refine Ok.cT dx ?_
       refine Ok.to (x := (b2, o2)) r1' ?_
       refine Ok.to (x := .s x) ld' (Ok.to (x := x) rfl ?_)
       exact Ok_some.2 rfl
      ·subst h
       exact Ok.to (x := !(x == weakB)) rfl (Ok_some.2 (by simp))
    ·rintro _ rfl
     refine Ok.to (x := !k1' || !(x == weakB)) rfl ?_
     cases hb : (!k1' || !(x == weakB)) with
     | true =>
      have hN : lnumL weakB s = none := by
       rw [hLe']
       cases k1' with
       | false => rw [hk1' rfl]; split <;> rfl
       | true => rw [if_neg (by simpa using hb)]
      rw [hN]
      have c0 : σ3.blk B0 = some (.cells true 30 [.sl .nil 0, .sl .nil 0, .sl .nil 0]) := by rw [E.blk _ (by omega)]; exact b0
      have cn : σ3.blk Bn = some (.cells true 30 [.sl .nil 0, .sl .nil 0, .sl .nil 0]) := by rw [E.blk _ (by omega)]; exact bn
      refine Ok.cT rfl ?_
      simp -implicitDefEqProofs only [hB0, hBn, c0, cn, e1, Nat.reduceAdd, Nat.reduceMul, Nat.reduceLT, Int.reduceToNat, Int.reduceAdd, Int.reduceSub, Int.reduceMul, rsU, s_ldI, s_ldU, s_ldS, s_ldP, s_gtI, s_gtU, s_gtS, s_bleD, Nat.reduceLeDiff, decide_true, decide_false]
      exact Ok_some.2 ⟨_, rfl, n3, fun b hb => by rw [s_bn (by omega), E.blk _ (by omega)]⟩
     | false =>
      have hb1 : k1' = true ∧ x = weakB := by
       cases k1' with
       | false => cases hb
       | true => exact ⟨rfl, by simpa using hb⟩
      obtain ⟨rfl, hxW⟩ := hb1
      obtain ⟨l, g1, rfl, g2⟩ := hk1 rfl
      rw [hLe', if_pos hxW, g1]
      have c1 : σ3.blk Bf = some (.cells true 30 [x0, x1, x2]) := by rw [E.blk _ (by omega)]; exact bf
      refine Ok.cF rfl ?_
      refine Ok.step (Q := fun r => r = ([], σ3.put Bf (.cells true 30 [x0, x1, .sl A1 l.length]))) ?_ ?_
      ·refine Ok.cF rfl ?_
       refine Ok.to (x := σ3.put Bf (.cells true 30 [x0, x1, .sl A1 l.length])) (by simp -implicitDefEqProofs only [hBf, c1, Nat.reduceAdd, Nat.reduceMul, Nat.reduceLT, Int.reduceToNat, Int.reduceAdd, Int.reduceSub, Int.reduceMul, rsU, s_ldI, s_ldU, s_ldS, s_ldP, s_gtI, s_gtU, s_gtS, s_bleD, Nat.reduceLeDiff, decide_true, decide_false]) ?_
       exact Ok_some.2 rfl
      ·rintro _ rfl
       exact Ok_some.2 ⟨A1, σ3.put Bf (.cells true 30 [x0, x1, .sl A1 l.length]), by rw [e1]; rfl, g2, ⟨n3, fun b hb hne => by rw [s_bn (by simpa using hne), E.blk _ hb]⟩, s_bs⟩
 ·have dk : decide ((at' : Int) ≥ (L.length : Int)) = true := decide_eq_true (by omega)
  rw [List.getElem?_eq_none (by omega)]
  refine Ok.cT dk ?_
  simp -implicitDefEqProofs only [hB0, hBn, b0, bn, e1, Nat.reduceAdd, Nat.reduceMul, Nat.reduceLT, Int.reduceToNat, Int.reduceAdd, Int.reduceSub, Int.reduceMul, rsU, s_ldI, s_ldU, s_ldS, s_ldP, s_gtI, s_gtU, s_gtS, s_bleD, Nat.reduceLeDiff, decide_true, decide_false]
  exact Ok_some.2 ⟨_, rfl, Nat.le_refl _, fun b hb => s_bn (by omega)⟩
theorem rtail2 {σ h h7 : AH O} {r3 : AV × AH O} {A : SA} {n : Nat} {a : Int} :
  Ok (haymowref46_Parse_L2 (A, n) r3 h haymowref03_Cut haymowref46_numbers h7 ([.i .i64 a, .i .i64 2], σ)) fun r => r = .inr (.inl ([.i .i64 a], σ)) := by
 refine Ok.to (x := a) rfl ?_
 refine Ok.to (x := 2) rfl ?_
 exact Ok.cF rfl (Ok_some.2 rfl)
end Go.Abs.Tryd
namespace Go.Abs.Tryd
open Go Go.Abs
variable {O : Type}
theorem rparse_ok {σ : AH O} {t : Bs} (ht : t.length ≤ 90000) : Ok (haymowref46_Parse [.s t] σ) fun r => ParA (lparseT t) r.1 ∧ Ext σ r.2 := by
 unfold haymowref46_Parse
 refine frz_ok (s := haymowref46_Parse_c haymowref03_Cut haymowref46_begins haymowref46_readNode haymowref46_numbers haymowref40_Right) (Q := ParA (lparseT t)) ?_
 have fin : ∀ {k c : Nat} {r : AV × AH O}, lparseT t = (nilF, k, c) → r.1 = .tup [.agg [.sl .nil 0, .sl .nil 0, .sl .nil 0], .i .i64 (k : Int), .i .i64 (c : Int)] → Ext σ r.2 → ∃ v' L, FZ 8 r.2.blk L r.1 v' ∧ (∀ b ∈ L, σ.next ≤ b) ∧ Ext σ r.2 ∧ ParA (lparseT t) v' := fun {k c r} hp h E => ⟨r.1, [], by rw [h]; exact par_nil_fz, by simp, E, by rw [hp, h]; exact par_nil⟩
 unfold haymowref46_Parse_c
 refine Ok.cT rfl ?_
 refine Ok.to (x := t) rfl ?_
 refine Ok.step (rCut_ok (c := 10) (by omega)) ?_
 rintro ⟨v, σ1⟩ ⟨⟨A, v1, hA⟩, E0⟩
 simp only at v1 E0
 subst v1
 have hA : Strs A (cutB 10 t) := hA
 have hf := fun v hv => cut_le (c := 10) (w := v) (s := t) hv
 have hn : (cutB 10 t).length ≤ 1000000 := by have := cut_len 10 t; omega
 have hn2 : (cutB 10 t).length ≤ 90001 := by have := cut_len 10 t; omega
 have hP : lparseT t = match lgoN 0 [] (cutB 10 t) with | .inr k => (nilF, k, 61) | .inl (N, k, ls) => ltailP N k ls := rfl
 generalize cutB 10 t = L at *
 have hf' : ∀ s ∈ L, s.length ≤ 90000 := fun s hs => Nat.le_trans (hf s hs) ht
 refine Ok.to (x := (A, L.length)) rfl ?_
 have n1 : σ.next + 1 ≤ σ1.next := by simpa using E0.next
 have b1 : σ1.blk σ.next = some (.cells true 30 [.sl .nil 0, .sl .nil 0, .sl .nil 0]) := by rw [E0.blk _ (by simp)]; exact s_bs
 have E1 : Ext σ σ1 := (((Ext.refl σ).bump 1).put (Nat.le_refl _) _).trans E0
 clear E0
 obtain ⟨σ7, hσ7⟩ : ∃ s, (σ1.bump 1).put σ1.next (.cells true 30 [.sl .nil 0, .sl .nil 0, .sl .nil 0]) = s := ⟨_, rfl⟩
 have hst : ((σ1.bump 1).put σ1.next (.cells true 30 [.sl .nil 0, .sl .nil 0, .sl .nil 0])).st (.n σ1.next) 0 [.sl .nil 0, .sl .nil 0, .sl .nil 0] = some σ7 := by
  rw [← hσ7]
  simp -implicitDefEqProofs only [Nat.reduceAdd, Nat.reduceMul, Nat.reduceLT, Int.reduceToNat, Int.reduceAdd, Int.reduceSub, Int.reduceMul, rsU, s_ldI, s_ldU, s_ldS, s_ldP, s_gtI, s_gtU, s_gtS, s_bleD, Nat.reduceLeDiff, decide_true, decide_false]
 refine Ok.to (x := σ7) hst ?_
 have bn7 : σ7.blk σ1.next = some (.cells true 30 [.sl .nil 0, .sl .nil 0, .sl .nil 0]) := by rw [← hσ7]; exact s_bs
 have q7 : ∀ b, b < σ1.next → σ7.blk b = σ1.blk b := fun b hb => by rw [← hσ7, s_bn (by omega)]; rfl
 have n7 : σ7.next = σ1.next + 1 := by rw [← hσ7]; rfl
 clear hσ7 hst
 refine Ok.to (x := .sl .nil 0) (by simp -implicitDefEqProofs only [bn7, Nat.reduceAdd, Nat.reduceMul, Nat.reduceLT, Int.reduceToNat, Int.reduceAdd, Int.reduceSub, Int.reduceMul, rsU, s_ldI, s_ldU, s_ldS, s_ldP, s_gtI, s_gtU, s_gtS, s_bleD, Nat.reduceLeDiff, decide_true, decide_false]) (Ok.to (x := (.nil, 0)) rfl ?_)
 refine Ok.to (x := .sl .nil 0) (by simp -implicitDefEqProofs only [bn7, Nat.reduceAdd, Nat.reduceMul, Nat.reduceLT, Int.reduceToNat, Int.reduceAdd, Int.reduceSub, Int.reduceMul, rsU, s_ldI, s_ldU, s_ldS, s_ldP, s_gtI, s_gtU, s_gtS, s_bleD, Nat.reduceLeDiff, decide_true, decide_false]) (Ok.to (x := (.nil, 0)) rfl ?_)
 refine Ok.to (x := .sl .nil 0) (by simp -implicitDefEqProofs only [bn7, Nat.reduceAdd, Nat.reduceMul, Nat.reduceLT, Int.reduceToNat, Int.reduceAdd, Int.reduceSub, Int.reduceMul, rsU, s_ldI, s_ldU, s_ldS, s_ldP, s_gtI, s_gtU, s_gtS, s_bleD, Nat.reduceLeDiff, decide_true, decide_false]) (Ok.to (x := (.nil, 0)) rfl ?_)
 obtain ⟨σ2, hσ2⟩ : ∃ s, (σ7.bump 1).put σ7.next (.cells true 30 [.sl .nil 0, .sl .nil 0, .sl .nil 0]) = s := ⟨_, rfl⟩
 have hst : ((σ7.bump 1).put σ7.next (.cells true 30 [.sl .nil 0, .sl .nil 0, .sl .nil 0])).st (.n σ7.next) 0 [.sl .nil 0, .sl .nil 0, .sl .nil 0] = some σ2 := by
  rw [← hσ2]
  simp -implicitDefEqProofs only [Nat.reduceAdd, Nat.reduceMul, Nat.reduceLT, Int.reduceToNat, Int.reduceAdd, Int.reduceSub, Int.reduceMul, rsU, s_ldI, s_ldU, s_ldS, s_ldP, s_gtI, s_gtU, s_gtS, s_bleD, Nat.reduceLeDiff, decide_true, decide_false]
 refine Ok.to (x := σ2) hst ?_
 have bf2 : σ2.blk σ7.next = some (.cells true 30 [.sl .nil 0, .sl .nil 0, .sl .nil 0]) := by rw [← hσ2]; exact s_bs
 have q2 : ∀ b, b < σ7.next → σ2.blk b = σ7.blk b := fun b hb => by rw [← hσ2, s_bn (by omega)]; rfl
 have n2 : σ2.next = σ7.next + 1 := by rw [← hσ2]; rfl
 clear hσ2 hst
 have b2 : σ2.blk σ.next = some (.cells true 30 [.sl .nil 0, .sl .nil 0, .sl .nil 0]) := by rw [q2 _ (by omega), q7 _ (by omega)]; exact b1
 have bn2 : σ2.blk σ1.next = some (.cells true 30 [.sl .nil 0, .sl .nil 0, .sl .nil 0]) := by rw [q2 _ (by omega)]; exact bn7
 have E2 : Ext σ σ2 := ⟨by omega, fun b hb => by rw [q2 _ (by omega), q7 _ (by omega)]; exact E1.blk b hb⟩
 have toE : ∀ {σ' : AH O}, Low σ.next σ2 σ' → Ext σ σ' := fun {σ'} h => ⟨by have := h.next; omega, fun b hb => (h.blk b hb).trans (E2.blk b hb)⟩
 refine Ok.bindS (XLrl_ok (r3 := (.sl A L.length, σ1)) (h := σ) (h7 := σ7) (B0 := σ.next) (Bn := σ1.next) (Bf := σ7.next) rfl rfl rfl (show σ.next < σ1.next by omega) (by omega) hA hf' (Nat.le_refl _) hn b2 bn2 bf2 (by omega)) (fun q hq => ?_) (fun r hr => ?_)
 ·obtain ⟨k, N, a, vs, hgo, hk, hNk, hNx, q1, c1, own, im, fr, LW⟩ := hq
  obtain ⟨q, σ4⟩ := q
  simp only at q1 c1 own LW
  subst q1
  have hP : lparseT t = ltailP N k (L.drop k) := by rw [hP, hgo]
  have n4 := LW.next
  have b4 : σ4.blk σ.next = some (.cells true 30 [.sl .nil 0, .sl .nil 0, .sl .nil 0]) := by rw [LW.blk _ (by omega)]; exact b2
  have bn4 : σ4.blk σ1.next = some (.cells true 30 [.sl .nil 0, .sl .nil 0, .sl .nil 0]) := by rw [LW.blk _ (by omega)]; exact bn2
  have L04 : Low σ.next σ2 σ4 := ⟨LW.next, fun b hb => LW.blk b (by omega)⟩
  refine Ok.to (x := (k : Int)) rfl ?_
  refine Ok.bindS (Q := fun r => match r with
    | .inl q => ∃ r w b c, ltailP N k (L.drop k) = lendP N k r w (L.drop (k + 2)) ∧ q.1 = [.i .i64 ((k + 2 : Nat) : Int)] ∧ Ints .i64 b r ∧ Ints .i64 c w ∧ k + 2 ≤ L.length ∧ q.2.blk σ7.next = some (.cells true 30 [.sl a N.length, .sl b r.length, .sl c w.length]) ∧ Chg [σ7.next] σ4 q.2 ∧ r.length ≤ 90000 ∧ w.length ≤ 90000
    | .inr q => ∃ m, ltailP N k (L.drop k) = (nilF, m, 61) ∧ q.1 = .tup [.agg [.sl .nil 0, .sl .nil 0, .sl .nil 0], .i .i64 (m : Int), .i .i64 61] ∧ Low σ.next σ4 q.2) ?_ (fun q hq => ?_) (fun r hr => ?_)
  ·refine Ok.loop1 ?_
   refine Ok.mono (rtail0 (σ := σ4) (h := σ) (h7 := σ7) (r3 := (.sl A L.length, σ1)) (B0 := σ.next) (Bn := σ1.next) (Bf := σ7.next) rfl rfl rfl hA (fun s hs => Nat.le_trans (hf' s hs) (by omega)) hn hk b4 bn4 c1 (by omega) (by omega) (by omega)) ?_
   intro r hr
   cases hl : L[k]? with
   | none =>
    rw [hl] at hr
    obtain ⟨σ5, rfl, L5⟩ := hr
    refine ⟨k + 1, ?_, rfl, L5⟩
    rw [List.drop_eq_nil_of_le (List.getElem?_eq_none_iff.1 hl)]; rfl
   | some l =>
    rw [hl] at hr
    have hr : match lnumL rootsB l with | none => _ | some l => _ := hr
    have hd := drop_some hl
    cases hR : lnumL rootsB l with
    | none =>
     rw [hR] at hr
     obtain ⟨σ5, rfl, L5⟩ := hr
     refine ⟨k + 1, ?_, rfl, L5⟩
     rw [hd]; simp only [ltailP, hR]
    | some rr =>
     rw [hR] at hr
     obtain ⟨e, σ5, rfl, he, C5, d5⟩ := hr
     have hkl := (List.getElem?_eq_some_iff.1 hl).1
     have n5 := C5.next
     have b5 : σ5.blk σ.next = some (.cells true 30 [.sl .nil 0, .sl .nil 0, .sl .nil 0]) := by rw [C5.blk _ (by omega) (by simp; omega)]; exact b4
     have bn5 : σ5.blk σ1.next = some (.cells true 30 [.sl .nil 0, .sl .nil 0, .sl .nil 0]) := by rw [C5.blk _ (by omega) (by simp; omega)]; exact bn4
     refine Ok.loop1 ?_
     refine Ok.mono (rtail1 (h := σ) (h7 := σ7) (r3 := (.sl A L.length, σ1)) (B0 := σ.next) (Bn := σ1.next) (Bf := σ7.next) rfl rfl rfl hA (fun s hs => Nat.le_trans (hf' s hs) (by omega)) hn (at' := k + 1) hkl b5 bn5 d5 (by omega) (by omega) (by omega)) ?_
     intro r hr
     have L45 : Low σ.next σ4 σ5 := ⟨n5, fun b hb => C5.blk b (by omega) (by simp; omega)⟩
     cases hm : L[k + 1]? with
     | none =>
      rw [hm] at hr
      obtain ⟨σ6, rfl, L6⟩ := hr
      refine ⟨k + 2, ?_, rfl, L45.trans L6⟩
      rw [hd, List.drop_eq_nil_of_le (List.getElem?_eq_none_iff.1 hm)]; simp only [ltailP, hR]
     | some m =>
      rw [hm] at hr
      have hr : match lnumL weakB m with | none => _ | some l => _ := hr
      have hd' := drop_some hm
      cases hW : lnumL weakB m with
      | none =>
       rw [hW] at hr
       obtain ⟨σ6, rfl, L6⟩ := hr
       refine ⟨k + 2, ?_, rfl, L45.trans L6⟩
       rw [hd, hd']; simp only [ltailP, hR, hW]
      | some ww =>
       rw [hW] at hr
       obtain ⟨e2, σ6, rfl, he2, C6, d6⟩ := hr
       refine Ok.loop1 ?_
       refine Ok.mono rtail2 ?_
       rintro _ rfl
       have hfew : ∀ {w s : Bs} {l : List Int}, lnumL w s = some l → s ∈ L → l.length ≤ 90000 := fun {w s l} h hs => by
        unfold lnumL at h
        split at h
        ·have q1 := lnumsR_len h
         have q2 := cut_len 32 s
         have q3 := hf' s hs
         rw [List.length_tail] at q1; omega
        ·cases h
       exact ⟨rr, ww, e, e2, by rw [hd, hd']; simp only [ltailP, hR, hW], rfl, he, he2, (List.getElem?_eq_some_iff.1 hm).1, d6, C5.trans C6, hfew hR (List.mem_of_getElem? hl), hfew hW (List.mem_of_getElem? hm)⟩
  ·obtain ⟨rr, ww, e, e2, hT, q1, he, he2, hk2, d5, C5, rl, wl⟩ := hq
   obtain ⟨q, σ5⟩ := q
   simp only at q1 d5 C5
   subst q1
   rw [hT] at hP
   have n5 := C5.next
   have own5 : OwnS σ5 50 7 a N.length vs := own.of n5 fun b hb => C5.blk b (own.lt b hb) (by have := fr b hb; simp; omega)
   have b5 : σ5.blk σ.next = some (.cells true 30 [.sl .nil 0, .sl .nil 0, .sl .nil 0]) := by rw [C5.blk _ (by omega) (by simp; omega)]; exact b4
   have bn5 : σ5.blk σ1.next = some (.cells true 30 [.sl .nil 0, .sl .nil 0, .sl .nil 0]) := by rw [C5.blk _ (by omega) (by simp; omega)]; exact bn4
   have L45 : Low σ.next σ4 σ5 := ⟨n5, fun b hb => C5.blk b (by omega) (by simp; omega)⟩
   have E5 : Ext σ σ5 := toE (L04.trans L45)
   refine Ok.to (x := ((k + 2 : Nat) : Int)) rfl ?_
   refine Ok.step (Q := fun r => ∃ b, r = ([.b b], σ5) ∧ (b = false ↔ L.drop (k + 2) = [[]])) ?_ ?_
   ·have ew : IntKind.i64.wrap ((L.length : Int) - 1) = (L.length : Int) - 1 := i64_id (by omega) (by omega)
    by_cases hk3 : k + 3 = L.length
    ·have dne : (((k + 2 : Nat) : Int) != IntKind.i64.wrap ((L.length : Int) - 1)) = false := by rw [ew]; exact bne_eq_false_iff_eq.2 (by omega)
     have hx : L[k + 2]? = some L[k + 2] := List.getElem?_eq_getElem (by omega)
     have hd := drop_some hx
     rw [List.drop_eq_nil_of_le (show L.length ≤ k + 2 + 1 by omega)] at hd
     rw [hd]
     generalize L[k + 2] = s at *
     obtain ⟨bb, oo, r1, ld⟩ := strs_ref hA hx
     have ld := ld O σ5
     refine Ok.cT (by rw [dne]; rfl) ?_
     refine Ok.cT (by rw [decide_eq_true (show (0 : Int) ≤ ((k + 2 : Nat) : Int) by omega), decide_eq_true (show ((k + 2 : Nat) : Int) < (L.length : Int) by omega)]; rfl) ?_
     refine Ok.to (x := (bb, oo)) r1 ?_
     refine Ok.to (x := .s s) (by rw [Int.toNat_natCast, Nat.mul_one]; exact ld) (Ok.to (x := s) rfl ?_)
     refine Ok_some.2 ⟨_, rfl, ?_⟩
     cases s with
     | nil => simp
     | cons c s => simp
    ·have dne : (((k + 2 : Nat) : Int) != IntKind.i64.wrap ((L.length : Int) - 1)) = true := by rw [ew]; exact bne_iff_ne.2 (by omega)
     refine Ok.cF (by rw [dne]; rfl) (Ok_some.2 ⟨true, rfl, ?_⟩)
     simp only [Bool.true_eq_false, false_iff]
     intro hd
     have := congrArg List.length hd
     simp at this; omega
   ·rintro _ ⟨b, rfl, hb⟩
    refine Ok.to (x := b) rfl ?_
    cases b with
    | true =>
     have hne : ¬ L.drop (k + 2) = [[]] := fun h => by cases hb.2 h
     have e1 : IntKind.i64.wrap (((k + 2 : Nat) : Int) + 1) = ((k + 3 : Nat) : Int) := by rw [i64_id (by omega) (by omega)]; omega
     refine Ok.cT rfl ?_
     simp -implicitDefEqProofs only [b5, bn5, e1, Nat.reduceAdd, Nat.reduceMul, Nat.reduceLT, Int.reduceToNat, Int.reduceAdd, Int.reduceSub, Int.reduceMul, rsU, s_ldI, s_ldU, s_ldS, s_ldP, s_gtI, s_gtU, s_gtS, s_bleD, Nat.reduceLeDiff, decide_true, decide_false]
     exact Ok_some.2 (fin (k := k + 3) (c := 61) (by rw [hP]; unfold lendP; rw [if_neg hne]) rfl (E5.put (Nat.le_refl _) _))
    | false =>
     have hd := hb.1 rfl
     have hP : lparseT t = if rightP ⟨N, rr, ww⟩ = true then (⟨N, rr, ww⟩, 0, 0) else (nilF, 0, 5) := by rw [hP]; unfold lendP; rw [if_pos hd]
     refine Ok.cF rfl ?_
     refine Ok.to (x := .sl a N.length) (by simp -implicitDefEqProofs only [d5, Nat.reduceAdd, Nat.reduceMul, Nat.reduceLT, Int.reduceToNat, Int.reduceAdd, Int.reduceSub, Int.reduceMul, rsU, s_ldI, s_ldU, s_ldS, s_ldP, s_gtI, s_gtU, s_gtS, s_bleD, Nat.reduceLeDiff, decide_true, decide_false]) (Ok.to (x := (a, N.length)) rfl ?_)
     refine Ok.to (x := .sl e rr.length) (by simp -implicitDefEqProofs only [d5, Nat.reduceAdd, Nat.reduceMul, Nat.reduceLT, Int.reduceToNat, Int.reduceAdd, Int.reduceSub, Int.reduceMul, rsU, s_ldI, s_ldU, s_ldS, s_ldP, s_gtI, s_gtU, s_gtS, s_bleD, Nat.reduceLeDiff, decide_true, decide_false]) (Ok.to (x := (e, rr.length)) rfl ?_)
     refine Ok.to (x := .sl e2 ww.length) (by simp -implicitDefEqProofs only [d5, Nat.reduceAdd, Nat.reduceMul, Nat.reduceLT, Int.reduceToNat, Int.reduceAdd, Int.reduceSub, Int.reduceMul, rsU, s_ldI, s_ldU, s_ldS, s_ldP, s_gtI, s_gtU, s_gtS, s_bleD, Nat.reduceLeDiff, decide_true, decide_false]) (Ok.to (x := (e2, ww.length)) rfl ?_)
     have frd : FRd σ5 ⟨N, rr, ww⟩ (.agg [.sl a N.length, .sl e rr.length, .sl e2 ww.length]) := ⟨a, e, e2, rfl, NodesR.own own5 im, he, he2⟩
     have few : (⟨N, rr, ww⟩ : FV).few := ⟨by show N.length ≤ _; omega, fun x hx => ⟨by have := (hNx x hx).1; omega, by have := (hNx x hx).2; omega⟩, by show rr.length ≤ _; omega, by show ww.length ≤ _; omega⟩
     refine Ok.step (rright_ok frd few) ?_
     rintro ⟨v, σ6⟩ ⟨v1, E6⟩
     simp only at v1 E6
     subst v1
     refine Ok.to (x := rightP ⟨N, rr, ww⟩) rfl ?_
     have n6 := E6.next
     have b6 : σ6.blk σ.next = some (.cells true 30 [.sl .nil 0, .sl .nil 0, .sl .nil 0]) := by rw [E6.blk _ (by omega)]; exact b5
     have bn6 : σ6.blk σ1.next = some (.cells true 30 [.sl .nil 0, .sl .nil 0, .sl .nil 0]) := by rw [E6.blk _ (by omega)]; exact bn5
     have d6 : σ6.blk σ7.next = some (.cells true 30 [.sl a N.length, .sl e rr.length, .sl e2 ww.length]) := by rw [E6.blk _ (by omega)]; exact d5
     cases hR : rightP ⟨N, rr, ww⟩ with
     | false =>
      rw [hR] at hP
      refine Ok.cT rfl ?_
      simp -implicitDefEqProofs only [b6, bn6, Nat.reduceAdd, Nat.reduceMul, Nat.reduceLT, Int.reduceToNat, Int.reduceAdd, Int.reduceSub, Int.reduceMul, rsU, s_ldI, s_ldU, s_ldS, s_ldP, s_gtI, s_gtU, s_gtS, s_bleD, Nat.reduceLeDiff, decide_true, decide_false]
      exact Ok_some.2 (fin (k := 0) (c := 5) hP rfl ((E5.trans E6).put (Nat.le_refl _) _))
     | true =>
      rw [hR, if_pos rfl] at hP
      refine Ok.cF rfl ?_
      simp -implicitDefEqProofs only [b6, d6, Nat.reduceAdd, Nat.reduceMul, Nat.reduceLT, Int.reduceToNat, Int.reduceAdd, Int.reduceSub, Int.reduceMul, rsU, s_ldI, s_ldU, s_ldS, s_ldP, s_gtI, s_gtU, s_gtS, s_bleD, Nat.reduceLeDiff, decide_true, decide_false]
      have own6 : OwnS (σ6.put σ.next (.cells true 30 [.sl a N.length, .sl e rr.length, .sl e2 ww.length])) 50 7 a N.length vs := own5.of n6 fun b hb => by rw [s_bn (by have := fr b hb; omega), E6.blk _ (own5.lt b hb)]
      obtain ⟨f, f1, f2⟩ := form_fz (k := 0) (m := 0) own6 im he he2
      exact Ok_some.2 ⟨_, _, f1, fun b hb => by have := fr b hb; omega, (E5.trans E6).put (Nat.le_refl _) _, by rw [hP]; exact ⟨f, rfl, f2⟩⟩
  ·obtain ⟨m, hT, h1, h2⟩ := hr
   exact fin (k := m) (c := 61) (by rw [hP]; exact hT) h1 (toE (L04.trans h2))
 ·obtain ⟨m, hgo, h1, h2⟩ := hr
  exact fin (k := m) (c := 61) (by rw [hP, hgo]) h1 (toE h2)
end Go.Abs.Tryd
