/-
  Numbers at the head of words: the document's walk. No conditions.
-/
import Derived.Test.YthkpjongjnjfgaaI10
import Derived.Test.YthkpjongjnjfgaaI4
import Derived.Test.YthkpjongjnjfgaaI5
import Derived.Test.YthkpjongjnjfgaaN1
set_option linter.unusedVariables false
set_option linter.unusedSimpArgs false
set_option linter.constructorNameAsVariable false
set_option linter.unusedSimpArgs false
set_option linter.unusedVariables false
set_option maxHeartbeats 2000000
namespace Go.Abs.Try
open Go Go.Abs
variable {O : Type}
theorem imm_flat {es n : Nat} {a : SA} {cs : List AV} (h : Imm es a n cs) (m : Nat) : (AV.sl a m).flat = true := by
 have := h.bk
 match a, this with
 | .nil, _ => rfl
 | .z, _ => rfl
 | .loc (.f _) _ _, _ => rfl
 | .loc (.n _) _ _, h => simp [SA.bk] at h
theorem ints_adv {k : IntKind} {a : SA} {l : List Int} {n : Nat} (h : Ints k a l) (hn : n <= l.length) : ∃ a', a.adv n 1 = some a' /\ Ints k a' (l.drop n) := by
 obtain ⟨a', g1, g2⟩ := h.imm.adv (lo := n) (m := l.length - n) (by omega)
 refine ⟨a', g1, Ints.mk ?_⟩
 simp only [Nat.mul_one] at g2
 rw [<- List.map_drop, <- List.map_take, List.take_of_length_le (by simp)] at g2
 rw [List.length_drop]; exact g2
def TakeV (o : Option (List Int × List Int)) (v : AV) : Prop := match o with
 | some (P, r) => ∃ a1 a2, v = .tup [.sl a1 P.length, .sl a2 r.length, .b true] /\ Ints .i64 a1 P /\ Ints .u64 a2 r
 | none => v = .tup [.sl .nil 0, .sl .nil 0, .b false]
theorem take_ok {J : AH O} {a : SA} {l : List Int} {n : Int} (hl : Ints .u64 a l) (hw : ∀ x ∈ l, 0 <= x /\ x < 18446744073709551616) (hs : l.length <= 1000000) (hn : 0 <= n /\ n <= 1000000) :
  Ok (haymowref41_take [.sl a l.length, .i .i64 n] J) fun r => TakeV (takeP n.toNat l) r.1 /\ Ext J r.2 := by
 unfold takeP
 by_cases c1 : n > (l.length : Int)
 ·have d1 : decide (n > (l.length : Int)) = true := decide_eq_true c1
  rw [if_neg (by omega)]
  refine frz_ok (s := haymowref41_take_c) (Q := fun v => v = .tup [.sl .nil 0, .sl .nil 0, .b false]) ?_
  simp (maxSteps := 2000000) -implicitDefEqProofs (disch := (first | omega | rfl | assumption | (simp only [rsD]; first | omega | assumption))) only [haymowref41_take_c, d1, Nat.reduceAdd, Nat.reduceMul, Nat.reduceLT, Int.reduceToNat, Int.reduceAdd, Int.reduceSub, Int.reduceMul, rsU, rsC]
  exact Ok_some.2 ⟨_, [], FZ.tup (FZL.flat rfl), by simp, Ext.refl _, rfl⟩
 have d1 : decide (n > (l.length : Int)) = false := decide_eq_false c1
 obtain ⟨a2, g2, i2⟩ := ints_adv hl (n := n.toNat) (by omega)
 have e2 : l.length - n.toNat = (l.drop n.toNat).length := by simp
 have dn : decide ((0 : Int) <= n) = true := decide_eq_true hn.1
 have dn2 : decide (n <= (l.length : Int)) = true := decide_eq_true (by omega)
 have dn3 : decide ((l.length : Int) <= (l.length : Int)) = true := decide_eq_true (by omega)
 have key : Ok (haymowref41_take_c [.sl a l.length, .i .i64 n] J) fun r => if (∀ x ∈ l.take n.toNat, x <= 4194304) then (∃ a1, r.1 = .tup (.sl a1 (l.take n.toNat).length :: [.sl a2 (l.drop n.toNat).length, .b true]) /\ OwnS r.2 3 1 a1 (l.take n.toNat).length ((l.take n.toNat).map (AV.i .i64)) /\ Ext J r.2 /\ ∀ b ∈ SA.bk a1, J.next <= b) else (r.1 = .tup [.sl .nil 0, .sl .nil 0, .b false] /\ Ext J r.2) := by
  simp (maxSteps := 2000000) -implicitDefEqProofs (disch := (first | omega | rfl | assumption | (simp only [rsD]; first | omega | assumption))) only [haymowref41_take_c, d1, Nat.reduceAdd, Nat.reduceMul, Nat.reduceLT, Int.reduceToNat, Int.reduceAdd, Int.reduceSub, Int.reduceMul, rsU, rsC]
  refine Ok.bindS (Q := fun r => match r with
    | .inl s => (∀ x ∈ l.take n.toNat, x <= 4194304) /\ ∃ a1, s.1 = [.sl a1 n.toNat] /\ OwnS s.2 3 1 a1 n.toNat ((l.take n.toNat).map (AV.i .i64)) /\ Ext J s.2 /\ ∀ b ∈ SA.bk a1, J.next <= b
    | .inr r => ¬ (∀ x ∈ l.take n.toNat, x <= 4194304) /\ r.1 = .tup [.sl .nil 0, .sl .nil 0, .b false] /\ Ext J r.2) ?_ (fun s hs => ?_) (fun r hr => ?_)
  ·refine Ok.count n.toNat (fun k s => ∃ a1 J', s = ([.sl a1 k, .i .i64 (k : Int)], J') /\ (∀ x ∈ l.take k, x <= 4194304) /\ OwnS J' 3 1 a1 k ((l.take k).map (AV.i .i64)) /\ Ext J J' /\ ∀ b ∈ SA.bk a1, J.next <= b) ?_ ?_ ⟨.nil, J, rfl, by simp, OwnS.nil _ _ _, Ext.refl _, by simp [SA.bk]⟩
   ·rintro k _ hk ⟨a1, J', rfl, h1, own, E, fr⟩
    have hkl : k < l.length := by omega
    have hx := List.getElem?_eq_getElem hkl
    have hxw := hw _ (List.getElem_mem hkl)
    have hmem : l[k] ∈ l.take n.toNat := List.mem_take_iff_getElem.2 ⟨k, by omega, rfl⟩
    have ht := List.take_succ_eq_append_getElem hkl
    obtain ⟨bb, oo, r1, ld⟩ := ints_ref hl hx
    have ld2 := ld O (J'.bump 2)
    have ld := ld O J'
    rw [ht]
    generalize l[k] = x at *
    have dk : decide ((k : Int) < n) = true := decide_eq_true (by omega)
    have d0 : decide ((0 : Int) <= (k : Int)) = true := decide_eq_true (by omega)
    have dkl : decide ((k : Int) < (l.length : Int)) = true := decide_eq_true (by omega)
    by_cases c : x > 4194304
    ·have d : decide (x > 4194304) = true := decide_eq_true c
     simp (maxSteps := 2000000) -implicitDefEqProofs (disch := (first | omega | rfl | assumption | (simp only [rsD]; first | omega | assumption))) only [haymowref41_take_L1, dk, d0, dkl, r1, ld, ld2, d, Int.toNat_natCast, Nat.reduceAdd, Nat.reduceMul, Nat.reduceLT, Int.reduceToNat, Int.reduceAdd, Int.reduceSub, Int.reduceMul, rsU, rsC]
     exact Ok_some.2 ⟨fun h => by have := h x hmem; omega, rfl, E⟩
    ·have d : decide (x > 4194304) = false := decide_eq_false c
     have ew : IntKind.i64.wrap x = x := i64_id (by omega) (by omega)
     simp (maxSteps := 2000000) -implicitDefEqProofs (disch := (first | omega | rfl | assumption | (simp only [rsD]; first | omega | assumption))) only [haymowref41_take_L1, dk, d0, dkl, r1, ld, ld2, d, ew, Int.toNat_natCast, Nat.reduceAdd, Nat.reduceMul, Nat.reduceLT, Int.reduceToNat, Int.reduceAdd, Int.reduceSub, Int.reduceMul, rsU, rsC]
     refine Ok.step (grow1 own) fun q ⟨a3, g1, g3, g4, g5⟩ => ?_
     obtain ⟨q, J2⟩ := q
     simp only at g1 g3 g4 g5
     subst g1
     simp (maxSteps := 2000000) -implicitDefEqProofs (disch := (first | omega | rfl | assumption | (simp only [rsD]; first | omega | assumption))) only [Nat.reduceAdd, Nat.reduceMul, Nat.reduceLT, Int.reduceToNat, Int.reduceAdd, Int.reduceSub, Int.reduceMul, rsU, rsC]
     refine Ok_some.2 ⟨a3, J2, rfl, fun y hy => ?_, by rw [List.map_append]; exact g3, Chg.new E fr g4, fun b hb => by have := g5 b hb; have := E.next; omega⟩
     rcases List.mem_append.1 hy with hy | hy
     ·exact h1 y hy
     ·simp at hy; subst hy; omega
   ·rintro _ ⟨a1, J', rfl, h1, own, E, fr⟩
    have dk : decide (((n.toNat : Nat) : Int) < n) = false := decide_eq_false (by omega)
    simp (maxSteps := 2000000) -implicitDefEqProofs (disch := (first | omega | rfl | assumption | (simp only [rsD]; first | omega | assumption))) only [haymowref41_take_L1, dk, Nat.reduceAdd, Nat.reduceMul, Nat.reduceLT, Int.reduceToNat, Int.reduceAdd, Int.reduceSub, Int.reduceMul, rsU, rsC]
    exact Ok_some.2 ⟨h1, a1, rfl, own, E, fr⟩
  ·obtain ⟨s, J'⟩ := s
   obtain ⟨h1, a1, e, own, E, fr⟩ := hs
   simp only at e own E
   subst e
   simp (maxSteps := 2000000) -implicitDefEqProofs (disch := (first | omega | rfl | assumption | (simp only [rsD]; first | omega | assumption))) only [dn, dn2, dn3, g2, Int.toNat_natCast, e2, Nat.reduceAdd, Nat.reduceMul, Nat.reduceLT, Int.reduceToNat, Int.reduceAdd, Int.reduceSub, Int.reduceMul, rsU, rsC]
   simp only [if_pos h1]
   have e3 : (l.take n.toNat).length = n.toNat := by simp; omega
   rw [e3]
   exact Ok_some.2 ⟨a1, rfl, own, E, fr⟩
  ·obtain ⟨h1, h2, h3⟩ := hr
   simp only [if_neg h1]
   exact ⟨h2, h3⟩
 by_cases c : ∀ x ∈ l.take n.toNat, x <= 4194304
 ·simp only [if_pos c] at key
  rw [if_pos ⟨by omega, c⟩]
  refine (frz_intsT (s := haymowref41_take_c) (k := .i64) (l := l.take n.toNat) (vs := [.sl a2 (l.drop n.toNat).length, .b true]) (by
   show ((AV.sl a2 _).flat && ((AV.b true).flat && true)) = true
   rw [imm_flat i2.imm]; rfl) (key.mono fun r ⟨a1, h1, h2, h3, h4⟩ => ⟨a1, 3, h1, h2, h3, h4⟩)).mono fun r ⟨⟨a1, g1, g3⟩, E⟩ => ⟨⟨a1, a2, g1, Ints.mk g3, i2⟩, E⟩
 ·simp only [if_neg c] at key
  rw [if_neg (fun h => c h.2)]
  exact frz_ok (s := haymowref41_take_c) (Q := fun v => v = .tup [.sl .nil 0, .sl .nil 0, .b false]) (key.mono fun r ⟨h1, h2⟩ => ⟨_, [], by rw [h1]; exact FZ.tup (FZL.flat rfl), by simp, h2, rfl⟩)
theorem TakeV.fz {o : Option (List Int × List Int)} {v : AV} (h : TakeV o v) {d : Nat} {H : Nat -> Option (Blk O)} : FZ (d + 2) H [] v v := by
 unfold TakeV at h
 match o, h with
 | none, h =>
  rw [h]; exact FZ.tup (FZL.flat rfl)
 | some (P, r), ⟨a1, a2, h, i1, i2⟩ =>
  rw [h]
  refine FZ.tup (FZL.flat ?_)
  show ((AV.sl a1 _).flat && ((AV.sl a2 _).flat && ((AV.b true).flat && true))) = true
  rw [imm_flat i1.imm, imm_flat i2.imm]; rfl
theorem counted_ok {J : AH O} {a : SA} {l : List Int} (hl : Ints .u64 a l) (hw : ∀ x ∈ l, 0 <= x /\ x < 18446744073709551616) (hs : l.length <= 1000000) :
  Ok (haymowref41_counted [.sl a l.length] J) fun r => TakeV (countP_ l) r.1 /\ Ext J r.2 := by
 refine frz_ok (s := haymowref41_counted_c haymowref41_take) (Q := fun v => TakeV (countP_ l) v) ?_
 suffices h : Ok (haymowref41_counted_c haymowref41_take [.sl a l.length] J) fun r => TakeV (countP_ l) r.1 /\ Ext J r.2 from h.mono fun r ⟨h1, h2⟩ => ⟨r.1, [], h1.fz, by simp, h2, h1⟩
 have f0 : (false == false) = true := rfl
 have f1 : (true == false) = false := rfl
 cases l with
 | nil =>
  have d0 : (((0 : Nat) : Int) == 0) = true := rfl
  simp (maxSteps := 2000000) -implicitDefEqProofs (disch := (first | omega | rfl | assumption | (simp only [rsD]; first | omega | assumption))) only [haymowref41_counted_c, List.length_nil, d0, f0, f1, Nat.reduceAdd, Nat.reduceMul, Nat.reduceLT, Int.reduceToNat, Int.reduceAdd, Int.reduceSub, Int.reduceMul, rsU, rsC]
  exact Ok_some.2 ⟨rfl, Ext.refl _⟩
 | cons c l =>
  obtain ⟨bb, oo, r1, ld⟩ := ints_ref hl (i := 0) (x := c) rfl
  have ld := ld O J
  rw [Nat.add_zero] at ld
  obtain ⟨a2, g2, i2⟩ := ints_adv hl (n := 1) (by simp)
  simp only [List.drop_succ_cons, List.drop_zero] at i2
  simp only [List.length_cons] at hs
  have hc := hw c List.mem_cons_self
  have d0 : (((l.length + 1 : Nat) : Int) == 0) = false := by simp; omega
  have d1 : decide ((0 : Int) < ((l.length + 1 : Nat) : Int)) = true := decide_eq_true (by omega)
  have d2 : decide ((1 : Int) <= ((l.length + 1 : Nat) : Int)) = true := decide_eq_true (by omega)
  have d3 : decide (((l.length + 1 : Nat) : Int) <= ((l.length + 1 : Nat) : Int)) = true := decide_eq_true (by omega)
  have e1 : IntKind.u64.wrap (IntKind.i64.wrap (((l.length + 1 : Nat) : Int) - 1)) = (l.length : Int) := by rw [i64_id (by omega) (by omega), u64_id (by omega) (by omega)]; omega
  unfold countP_
  simp only
  by_cases cc : c > (l.length : Int)
  ·have d : decide (c > (l.length : Int)) = true := decide_eq_true cc
   rw [if_neg (by omega)]
   simp (maxSteps := 2000000) -implicitDefEqProofs (disch := (first | omega | rfl | assumption | (simp only [rsD]; first | omega | assumption))) only [haymowref41_counted_c, List.length_cons, d0, d1, r1, ld, e1, d, f0, f1, Nat.reduceAdd, Nat.reduceMul, Nat.reduceLT, Int.reduceToNat, Int.reduceAdd, Int.reduceSub, Int.reduceMul, rsU, rsC]
   exact Ok_some.2 ⟨rfl, Ext.refl _⟩
  ·have d : decide (c > (l.length : Int)) = false := decide_eq_false cc
   have ec : IntKind.i64.wrap c = c := i64_id (by omega) (by omega)
   rw [if_pos (by omega)]
   simp (maxSteps := 2000000) -implicitDefEqProofs (disch := (first | omega | rfl | assumption | (simp only [rsD]; first | omega | assumption))) only [haymowref41_counted_c, List.length_cons, d0, d1, d2, d3, r1, ld, e1, d, f0, f1, g2, ec, Int.toNat_natCast, Nat.add_sub_cancel, Nat.reduceAdd, Nat.reduceMul, Nat.reduceLT, Int.reduceToNat, Int.reduceAdd, Int.reduceSub, Int.reduceMul, rsU, rsC]
   refine Ok.step (take_ok i2 (fun x hx => hw x (List.mem_cons_of_mem _ hx)) (by omega) ⟨by omega, by omega⟩) fun q ⟨g1, E⟩ => ?_
   obtain ⟨q, J1⟩ := q
   simp only at g1 E
   cases ht : takeP c.toNat l with
   | none =>
    rw [ht] at g1
    unfold TakeV at g1
    simp only at g1
    subst g1
    simp (maxSteps := 2000000) -implicitDefEqProofs (disch := (first | omega | rfl | assumption | (simp only [rsD]; first | omega | assumption))) only [Nat.reduceAdd, Nat.reduceMul, Nat.reduceLT, Int.reduceToNat, Int.reduceAdd, Int.reduceSub, Int.reduceMul, rsU, rsC]
    exact Ok_some.2 ⟨rfl, E⟩
   | some p =>
    obtain ⟨P, rr⟩ := p
    rw [ht] at g1
    unfold TakeV at g1
    obtain ⟨a3, a4, e, i3, i4⟩ := g1
    subst e
    simp (maxSteps := 2000000) -implicitDefEqProofs (disch := (first | omega | rfl | assumption | (simp only [rsD]; first | omega | assumption))) only [Nat.reduceAdd, Nat.reduceMul, Nat.reduceLT, Int.reduceToNat, Int.reduceAdd, Int.reduceSub, Int.reduceMul, rsU, rsC]
    exact Ok_some.2 ⟨⟨a3, a4, rfl, i3, i4⟩, E⟩
end Go.Abs.Try
set_option maxHeartbeats 4000000
namespace Go.Abs.Try
open Go Go.Abs
variable {O : Type}
def unpW (w : Int) : AV := match unp w with | some h => .tup [.agg h.cs, .b true] | none => .tup [.agg zeroH.cs, .b false]
theorem runpack_ok (J : AH O) {w : Int} (h0 : 0 <= w) (h1 : w < 18446744073709551616) : Ok (haymowref12_Unpack [.i .u64 w] J) fun r => r.1 = unpW w /\ Ext J r.2 := by
 have e0 : IntKind.i64.wrap (Int.tmod w 4096) = w % 4096 := by rw [Int.tmod_eq_emod_of_nonneg h0, i64_id (by omega) (by omega)]
 have dv : ∀ d : Int, 0 < d -> IntKind.u64.wrap (Int.tdiv w d) = w / d := fun d hd => by
  have hq : 0 <= w / d := Int.ediv_nonneg h0 (by omega)
  have hq' : w / d <= w := Int.ediv_le_self _ h0
  rw [Int.tdiv_eq_ediv_of_nonneg h0, u64_id (by omega) (by omega)]
 have e1 : IntKind.i64.wrap (Int.tmod (IntKind.u64.wrap (Int.tdiv w 4096)) 4096) = w / 4096 % 4096 := by rw [dv _ (by decide), Int.tmod_eq_emod_of_nonneg (by omega), i64_id (by omega) (by omega)]
 have e2 : IntKind.i64.wrap (Int.tmod (IntKind.u64.wrap (Int.tdiv w 16777216)) 32) = w / 16777216 % 32 := by rw [dv _ (by decide), Int.tmod_eq_emod_of_nonneg (by omega), i64_id (by omega) (by omega)]
 have e3 : IntKind.i64.wrap (Int.tmod (IntKind.u64.wrap (Int.tdiv w 536870912)) 8) = w / 536870912 % 8 := by rw [dv _ (by decide), Int.tmod_eq_emod_of_nonneg (by omega), i64_id (by omega) (by omega)]
 have e4 : Int.tmod (IntKind.u64.wrap (Int.tdiv w 4294967296)) 2 = w / 4294967296 % 2 := by rw [dv _ (by decide), Int.tmod_eq_emod_of_nonneg (by omega)]
 have e5 : (w / 4294967296 % 2 == 1) = decide (w / 4294967296 % 2 = 1) := by
  rw [Bool.eq_iff_iff, decide_eq_true_eq, beq_iff_eq]
 simp -implicitDefEqProofs only [haymowref12_Unpack, haymowref12_Unpack_c, Nat.reduceAdd, Nat.reduceMul, Nat.reduceLT, Int.reduceToNat, Int.reduceAdd, Int.reduceSub, Int.reduceMul, rsU, s_ldI, s_ldU, s_ldS, s_ldP, s_gtI, s_gtU, s_gtS, s_bleD, Nat.reduceLeDiff, decide_true, decide_false]
 rw [e0, e1, e2, e3, e4, e5]
 generalize hJ : (((J.bump 1).put J.next _).bump 1).put (J.next + 1) _ = J1
 obtain ⟨E1, n1, b1, b2⟩ := box2' hJ
 clear hJ
 have rp := rpack_ok J1 (hdr_P w)
 refine Ok.step rp fun q ⟨g1, E2⟩ => ?_
 obtain ⟨q, J2⟩ := q
 simp only at g1 E2
 subst g1
 have c1 := (E2.blk _ (by omega)).trans b1
 have c2 := (E2.blk _ (by omega)).trans b2
 have E := E1.trans E2
 unfold unpW unp
 by_cases c : pck (hdr w) = w
 ·have d : (pck (hdr w) == w) = true := beq_iff_eq.2 c
  rw [if_pos c]
  simp (maxSteps := 2000000) -implicitDefEqProofs (disch := (first | omega | rfl | assumption | (simp only [rsD]; first | omega | assumption))) only [d, c1, c2, Nat.reduceAdd, Nat.reduceMul, Nat.reduceLT, Int.reduceToNat, Int.reduceAdd, Int.reduceSub, Int.reduceMul, rsU, rsC]
  exact Ok_some.2 ⟨rfl, E.put (Nat.le_refl _) _⟩
 ·have d : (pck (hdr w) == w) = false := beq_eq_false_iff_ne.2 c
  rw [if_neg c]
  simp (maxSteps := 2000000) -implicitDefEqProofs (disch := (first | omega | rfl | assumption | (simp only [rsD]; first | omega | assumption))) only [d, c1, c2, Nat.reduceAdd, Nat.reduceMul, Nat.reduceLT, Int.reduceToNat, Int.reduceAdd, Int.reduceSub, Int.reduceMul, rsU, rsC]
  exact Ok_some.2 ⟨rfl, E.put (Nat.le_refl _) _⟩
def rowQ (q : NV × SA) : List TV := q.1.h.cs.map TV.lf ++ [.lf (.sl q.2 q.1.P.length), .sl 54 1 q.1.R.length (q.1.R.flatMap (int1 .u64))]
theorem rowQ_len (q : NV × SA) : (rowQ q).length = 7 := rfl
def GoodQ (l : List (NV × SA)) : Prop := ∀ q ∈ l, Ints .i64 q.2 q.1.P
theorem rowQ_ow {J : AH O} {q : NV × SA} {us : List AV} {L : List Nat} (h : OwL J (rowQ q) us L) : ∃ d, us = q.1.cells q.2 d := by
 unfold rowQ HV.cs at h
 cases h with
 | cons h0 h _ => cases h with
 | cons h1 h _ => cases h with
 | cons h2 h _ => cases h with
 | cons h3 h _ => cases h with
 | cons h4 h _ => cases h with
 | cons h5 h _ => cases h with
 | cons h6 h _ => cases h with
 | nil =>
  obtain ⟨a, vs, L', rfl, _⟩ := h6.rd
  rw [h0.leaf.1, h1.leaf.1, h2.leaf.1, h3.leaf.1, h4.leaf.1, h5.leaf.1]
  exact ⟨a, rfl⟩
theorem NodesR.bldO {base : Nat} {J : AH O} {el : Nat} {a : SA} {l : List (NV × SA)} (h : BldO base J el 7 rowQ a l) (hg : GoodQ l) : NodesR J a (l.map Prod.fst) := by
 refine ⟨?_, fun b hb => (h.bk b hb).2⟩
 obtain ⟨hk, vs, L, h1, h2, h3, h4⟩ := h
 refine ⟨vs, by rw [List.length_map]; exact h1.rd, fun i x hx => ?_⟩
 rw [List.getElem?_map] at hx
 obtain ⟨q, hq, rfl⟩ := Option.map_eq_some_iff.1 hx
 obtain ⟨L0, g0, _⟩ := h2.drop (i * 7)
 obtain ⟨L', g1, _⟩ := g0.take 7
 have e : ((l.flatMap rowQ).drop (i * 7)).take 7 = rowQ q := by
  apply List.ext_getElem?
  intro j
  rw [List.getElem?_take]
  split
  ·rename_i hj
   rw [List.getElem?_drop, fmt_get rowQ_len _ _ _ hj, hq]; rfl
  ·rename_i hj
   rw [List.getElem?_eq_none]
   rw [rowQ_len]; omega
 rw [e] at g1
 obtain ⟨d, e2⟩ := rowQ_ow g1
 refine ⟨q.2, d, hg q (List.mem_of_getElem? hq), fun j hj => ?_⟩
 rw [<- e2, List.getElem?_take, if_pos hj, List.getElem?_drop]
theorem rowQ_im {l : List (NV × SA)} (hg : GoodQ l) {vs : List AV} (h : ImL (l.flatMap rowQ) vs) : ImL ((l.map Prod.fst).flatMap NV.row) vs := by
 induction l generalizing vs with
 | nil => exact h
 | cons q l ih =>
  rw [List.flatMap_cons] at h
  rw [List.map_cons, List.flatMap_cons]
  have h1 := h.take 7
  have h2 := h.drop 7
  rw [List.take_left' (rowQ_len q)] at h1
  rw [List.drop_left' (rowQ_len q)] at h2
  have k2 := ih (fun x hx => hg x (List.mem_cons_of_mem _ hx)) h2
  have k1 : ImL q.1.row (vs.take 7) := by
   unfold rowQ HV.cs at h1
   generalize vs.take 7 = us at h1
   cases h1 with
   | cons h0 h => cases h with
   | cons h1 h => cases h with
   | cons h2 h => cases h with
   | cons h3 h => cases h with
   | cons h4 h => cases h with
   | cons h5 h => cases h with
   | cons h6 h => cases h with
   | nil =>
    obtain ⟨b, rfl, ib⟩ := Row.of (int1_len .u64) h6 rfl
    rw [h0.leaf, h1.leaf, h2.leaf, h3.leaf, h4.leaf, h5.leaf]
    exact NV.mk_ (hg q List.mem_cons_self) ib
  have := k1.app k2
  rw [List.take_append_drop] at this
  exact this
def rowsQ (l : List (NV × SA)) (R W : List Int) : List TV := [.sl 97 7 l.length (l.flatMap rowQ), ints .i64 R, ints .i64 W]
theorem rowsQ_at {l : List (NV × SA)} {R W : List Int} {vs : List AV} (hg : GoodQ l) (h : ImL (rowsQ l R W) vs) : FV.At ⟨l.map Prod.fst, R, W⟩ (.agg vs) := by
 unfold rowsQ at h
 cases h with
 | cons h0 h => cases h with
 | cons h1 h => cases h with
 | cons h2 h => cases h with
 | nil =>
  obtain ⟨a, ws, rfl, ia, il⟩ := h0.rd
  obtain ⟨b, rfl, ib⟩ := ints_un h1
  obtain ⟨c, rfl, ic⟩ := ints_un h2
  exact ⟨a, b, c, by simp only [List.length_map], ⟨NV.len, ws, by rw [List.length_map]; exact ia, rowQ_im hg il⟩, ib, ic⟩
theorem rowsQ_deep (l : List (NV × SA)) (R W : List Int) (d : Nat) : ∀ t ∈ rowsQ l R W, t.deep (d + 2) := by
 intro t ht
 simp only [rowsQ, List.mem_cons, List.not_mem_nil, or_false] at ht
 rcases ht with rfl | rfl | rfl
 ·refine rows_deep fun q t ht => ?_
  simp only [rowQ, HV.cs, List.map_cons, List.map_nil, List.cons_append, List.nil_append, List.mem_cons, List.not_mem_nil, or_false] at ht
  rcases ht with rfl | rfl | rfl | rfl | rfl | rfl | rfl
  ·exact lf_deep _ _
  ·exact lf_deep _ _
  ·exact lf_deep _ _
  ·exact lf_deep _ _
  ·exact lf_deep _ _
  ·exact lf_deep _ _
  ·exact ints_deep .u64 q.1.R d
 ·exact ints_deep _ _ _
 ·exact ints_deep _ _ _
theorem frz_aggsE {s : Sm O} {xs : List AV} {J : AH O} {P : List TV -> List AV -> Prop} (h : Ok (s xs J) fun r => ∃ ts vs rest, r.1 = .tup (.agg vs :: rest) /\ New J r.2 ts vs /\ (∀ t ∈ ts, t.deep 5) /\ rest.all AV.flat = true /\ P ts rest) :
  Ok (frz s xs J) fun r => (∃ ts vs rest, r.1 = .tup (.agg vs :: rest) /\ ImL ts vs /\ P ts rest) /\ Ext J r.2 := by
 refine frz_ok (Q := fun v => ∃ ts vs rest, v = .tup (.agg vs :: rest) /\ ImL ts vs /\ P ts rest) (h.mono ?_)
 rintro ⟨v, J'⟩ ⟨ts, vs, rest, rfl, ⟨h1, L, h2, h3⟩, hd, hr, hP⟩
 obtain ⟨vs', g1, g2⟩ := h2.fz (d := 5) hd
 have := FZL.cons (FZ.agg g1) (FZL.flat (H := J'.blk) hr) (by simp)
 rw [List.append_nil] at this
 exact ⟨.tup (.agg vs' :: rest), L, FZ.tup this, h3, h1, ts, vs', rest, rfl, g2, hP⟩
end Go.Abs.Try
namespace Go.Abs.Try
open Go Go.Abs
variable {O : Type}
theorem nodesP_succ (k : Nat) (l : List Int) : nodesP unp (k + 1) l = match nodeP unp l with
  | none => none
  | some (x, r) => match nodesP unp k r with
   | none => none
   | some (N, q) => some (x :: N, q) := rfl
theorem box3 {J' J2 J4 : AH O} {x y : Blk O} (E : Ext J' J2) (hlt : J'.next < J2.next) (hJ : ((J2.put J'.next x).bump 1).put J2.next y = J4) : Ext J' J4 /\ J4.next = J2.next + 1 /\ J4.blk J'.next = some x /\ J4.blk J2.next = some y := by
 subst hJ
 exact ⟨((E.put (Nat.le_refl _) _).bump 1).put (by omega) _, rfl, (s_bn (by omega)).trans s_bs, s_bs⟩
theorem rowQ_own {J : AH O} {x : NV} {c d : SA} (hc : Ints .i64 c x.P) (o : OwnS J 54 1 d x.R.length (x.R.map (AV.i .u64))) : OwL J (rowQ (x, c)) (x.cells c d) (SA.bk d) := by
 have o2 := Ow.leaves o (flat_ints x.R)
 rw [<- int1_flat] at o2
 have q2 : OwL J [.sl 54 1 x.R.length (x.R.flatMap (int1 .u64))] [.sl d x.R.length] (SA.bk d ++ []) := .cons o2 .nil (by simp)
 rw [List.append_nil] at q2
 have q1 : OwL J [.lf (.sl c x.P.length), .sl 54 1 x.R.length (x.R.flatMap (int1 .u64))] [.sl c x.P.length, .sl d x.R.length] ([] ++ SA.bk d) := .cons (.im (.lf (imm_flat hc.imm _))) q2 (by simp)
 have q0 : OwL J (x.h.cs.map TV.lf) x.h.cs [] := OwL.im (ImL.lfs (by simp [HV.cs, AV.flat]))
 have := q0.app q1 (by simp)
 rw [List.nil_append, List.nil_append] at this
 exact this
theorem floop_ok {J h h2 : AH O} {a : SA} {l : List Int} {c : Int} (hl : Ints .u64 a l) (hw : ∀ x ∈ l, 0 <= x /\ x < 18446744073709551616) (hs : l.length <= 100000) (hc : 0 <= c /\ c <= 100000)
  (hf : J.blk h2.next = some (.cells true 33 [.sl .nil 0, .sl .nil 0, .sl .nil 0])) (h0 : J.blk h.next = some (.cells true 33 [.sl .nil 0, .sl .nil 0, .sl .nil 0])) (n1 : h.next ≠ h2.next) (l1 : h.next < J.next) (l2 : h2.next < J.next) :
  Ok (loopF (S := List AV × AH O) (T := (List AV × AH O) ⊕ (AV × AH O)) (haymowref41_form_L1 c h2 h haymowref12_Unpack haymowref41_take) ([.sl a l.length, .i .i64 0], J)) fun r => match r with
   | .inl s => ∃ a' rest Q aN, s.1 = [.sl a' rest.length] /\ Ints .u64 a' rest /\ (∀ x ∈ rest, x ∈ l) /\ rest.length <= l.length /\ GoodQ Q /\ nodesP unp c.toNat l = some (Q.map Prod.fst, rest) /\ BldO J.next s.2 97 7 rowQ aN Q /\ s.2.blk h2.next = some (.cells true 33 [.sl aN Q.length, .sl .nil 0, .sl .nil 0]) /\ Chg [h2.next] J s.2
   | .inr r => ∃ Q aN, GoodQ Q /\ nodesP unp c.toNat l = none /\ r.1 = .tup [.agg [.sl aN Q.length, .sl .nil 0, .sl .nil 0], .b false] /\ BldO J.next r.2 97 7 rowQ aN Q /\ Chg [h2.next, h.next] J r.2 := by
 refine Ok.count c.toNat (fun k s => ∃ a' l' Q aN J', s = ([.sl a' l'.length, .i .i64 (k : Int)], J') /\ Ints .u64 a' l' /\ (∀ x ∈ l', x ∈ l) /\ l'.length <= l.length /\ Q.length = k /\ GoodQ Q /\
   (nodesP unp c.toNat l = match nodesP unp (c.toNat - k) l' with | none => none | some (M, r) => some (Q.map Prod.fst ++ M, r)) /\ BldO J.next J' 97 7 rowQ aN Q /\ J'.blk h2.next = some (.cells true 33 [.sl aN Q.length, .sl .nil 0, .sl .nil 0]) /\ Chg [h2.next] J J') ?_ ?_
  ⟨a, l, [], .nil, J, rfl, hl, fun _ h => h, Nat.le_refl _, rfl, (fun q hq => by cases hq), ?_, BldO.nil _ _ _ rowQ_len, hf, Chg.refl _ _⟩
 ·rintro k _ hk ⟨a', l', Q, aN, J', rfl, hl', hm, hll, hQ, hg, e, bl, hf', C⟩
  subst hQ
  rw [show c.toNat - Q.length = (c.toNat - (Q.length + 1)) + 1 by omega, nodesP_succ] at e
  have nC := C.next
  have h0' := (C.blk h.next l1 (by simp; exact n1)).trans h0
  have f0 : (false == false) = true := rfl
  have f1 : (true == false) = false := rfl
  have ec : IntKind.i64.wrap c = c := i64_id (by omega) (by omega)
  have dk : decide (((Q.length : Nat) : Int) < c) = true := decide_eq_true (by omega)
  have fin : ∀ {J9 : AH O} {x : Blk O}, Ext J' J9 -> BldO J.next (J9.put h.next x) 97 7 rowQ aN Q /\ Chg [h2.next, h.next] J (J9.put h.next x) := fun {J9 x} E => by
   refine ⟨(bl.ext E).keep (by simp) fun b hb _ => s_bn (by omega), Chg.put ?_ (by simp) _⟩
   exact (C.trans E.chg).mono (by simp)
  cases l' with
  | nil =>
   have d0 : (((0 : Nat) : Int) == 0) = true := rfl
   simp (maxSteps := 2000000) -implicitDefEqProofs (disch := (first | omega | rfl | assumption | (simp only [rsD]; first | omega | assumption))) only [haymowref41_form_L1, ec, dk, List.length_nil, d0, hf', h0', Nat.reduceAdd, Nat.reduceMul, Nat.reduceLT, Int.reduceToNat, Int.reduceAdd, Int.reduceSub, Int.reduceMul, rsU, rsC]
   obtain ⟨q1, q2⟩ := fin (x := .cells true 33 [.sl aN Q.length, .sl .nil 0, .sl .nil 0]) (Ext.refl J')
   exact Ok_some.2 ⟨Q, aN, hg, e, rfl, q1, q2⟩
  | cons w t =>
  obtain ⟨bb, oo, r1, ld⟩ := ints_ref hl' (i := 0) (x := w) rfl
  have ld := ld O (J'.bump 1)
  rw [Nat.add_zero] at ld
  obtain ⟨a2, g2, i2⟩ := ints_adv hl' (n := 1) (by simp)
  simp only [List.drop_succ_cons, List.drop_zero] at i2
  simp only [List.length_cons] at hll
  have hww := hw w (hm w List.mem_cons_self)
  have d0 : (((t.length + 1 : Nat) : Int) == 0) = false := by simp; omega
  have d1 : decide ((0 : Int) < ((t.length + 1 : Nat) : Int)) = true := decide_eq_true (by omega)
  have d2 : decide ((1 : Int) <= ((t.length + 1 : Nat) : Int)) = true := decide_eq_true (by omega)
  have d3 : decide (((t.length + 1 : Nat) : Int) <= ((t.length + 1 : Nat) : Int)) = true := decide_eq_true (by omega)
  simp (maxSteps := 2000000) -implicitDefEqProofs (disch := (first | omega | rfl | assumption | (simp only [rsD]; first | omega | assumption))) only [haymowref41_form_L1, ec, dk, List.length_cons, d0, d1, r1, ld, Nat.reduceAdd, Nat.reduceMul, Nat.reduceLT, Int.reduceToNat, Int.reduceAdd, Int.reduceSub, Int.reduceMul, rsU, rsC]
  refine Ok.step (runpack_ok (J'.bump 1) hww.1 hww.2) fun q ⟨g1, E2⟩ => ?_
  obtain ⟨q, J2⟩ := q
  simp only at g1 E2
  have n2 := E2.next
  simp only [bump_next] at n2
  have E02 : Ext J' J2 := ((Ext.refl J').bump 1).trans E2
  have hf2 := (E02.blk h2.next (by omega)).trans hf'
  have h02 := (E02.blk h.next (by omega)).trans h0'
  cases hu : unp w with
  | none =>
   have en : nodeP unp (w :: t) = none := by simp only [nodeP, hu]
   rw [en] at e
   unfold unpW at g1
   rw [hu] at g1
   simp only [zeroH, HV.cs] at g1
   subst g1
   simp (maxSteps := 2000000) -implicitDefEqProofs (disch := (first | omega | rfl | assumption | (simp only [rsD]; first | omega | assumption))) only [hf2, h02, f0, f1, Nat.reduceAdd, Nat.reduceMul, Nat.reduceLT, Int.reduceToNat, Int.reduceAdd, Int.reduceSub, Int.reduceMul, rsU, rsC]
   obtain ⟨q1, q2⟩ := fin (x := .cells true 33 [.sl aN Q.length, .sl .nil 0, .sl .nil 0]) (E02.put (b := J'.next) (Nat.le_refl _) (.cells true 53 [.i .i64 0, .i .i64 0, .i .i64 0, .i .i64 0, .b false]))
   exact Ok_some.2 ⟨Q, aN, hg, e, rfl, q1, q2⟩
  | some hv =>
  unfold unpW at g1
  rw [hu] at g1
  simp only [HV.cs] at g1
  subst g1
  obtain ⟨kp, kr, _⟩ := hdP_rng (unp_P hu)
  simp (maxSteps := 2000000) -implicitDefEqProofs (disch := (first | omega | rfl | assumption | (simp only [rsD]; first | omega | assumption))) only [d2, d3, g2, f0, f1, Int.toNat_natCast, Nat.add_sub_cancel, Nat.reduceAdd, Nat.reduceMul, Nat.reduceLT, Int.reduceToNat, Int.reduceAdd, Int.reduceSub, Int.reduceMul, rsU, rsC]
  generalize hJ : ((J2.put J'.next _).bump 1).put J2.next _ = J4
  obtain ⟨E04, n4, hb4, x4⟩ := box3 E02 (by omega) hJ
  clear hJ
  refine Ok.step (take_ok i2 (fun x hx => hw x (hm x (List.mem_cons_of_mem _ hx))) (by omega) ⟨kp.1, by omega⟩) fun q ⟨g3, E5⟩ => ?_
  obtain ⟨q, J5⟩ := q
  simp only at g3 E5
  have n5 := E5.next
  have E05 := E04.trans E5
  have hb5 := (E5.blk J'.next (by omega)).trans hb4
  have x5 := (E5.blk J2.next (by omega)).trans x4
  have hf5 := (E05.blk h2.next (by omega)).trans hf'
  have h05 := (E05.blk h.next (by omega)).trans h0'
  cases ht : takeP hv.p.toNat t with
  | none =>
   rw [ht] at g3
   unfold TakeV at g3
   simp only at g3
   subst g3
   have en : nodeP unp (w :: t) = none := by simp only [nodeP, hu, ht]
   rw [en] at e
   simp (maxSteps := 2000000) -implicitDefEqProofs (disch := (first | omega | rfl | assumption | (simp only [rsD]; first | omega | assumption))) only [x5, hf5, h05, f0, f1, Nat.reduceAdd, Nat.reduceMul, Nat.reduceLT, Int.reduceToNat, Int.reduceAdd, Int.reduceSub, Int.reduceMul, rsU, rsC]
   exact Ok_some.2 ⟨Q, aN, hg, e, rfl, (fin (E05.put (by omega) _)).1, (fin (E05.put (by omega) _)).2⟩
  | some p =>
  obtain ⟨P, t2⟩ := p
  rw [ht] at g3
  unfold TakeV at g3
  simp only at g3
  obtain ⟨a3, a4, g3, i3, i4⟩ := g3
  subst g3
  obtain ⟨eP, et2, hpl, _, _⟩ := takeP_some ht
  have ht2 : ∀ x ∈ t2, x ∈ l := fun x hx => hm x (List.mem_cons_of_mem _ (by rw [et2] at hx; exact List.mem_of_mem_drop hx))
  have hl2 : t2.length <= t.length := by rw [et2, List.length_drop]; omega
  simp (maxSteps := 2000000) -implicitDefEqProofs (disch := (first | omega | rfl | assumption | (simp only [rsD]; first | omega | assumption))) only [x5, Nat.reduceAdd, Nat.reduceMul, Nat.reduceLT, Int.reduceToNat, Int.reduceAdd, Int.reduceSub, Int.reduceMul, rsU, rsC]
  generalize hJ : J5.put J2.next _ = J6
  have n6 : J6.next = J5.next := by rw [<- hJ]; rfl
  have k6 : ∀ b, b ≠ J2.next -> J6.blk b = J5.blk b := fun b hb => by rw [<- hJ]; exact s_bn hb
  have x6 : J6.blk J2.next = some (.cells true 97 [.i .i64 hv.p, .i .i64 hv.r, .i .i64 hv.site, .i .i64 hv.age, .b hv.large, .sl a3 P.length, .sl .nil 0]) := by rw [<- hJ]; exact s_bs
  clear hJ
  have E06 : Ext J' J6 := ⟨by omega, fun b hb => (k6 b (by omega)).trans (E05.blk b hb)⟩
  have hb6 := (k6 J'.next (by omega)).trans hb5
  have hf6 := (k6 h2.next (by omega)).trans hf5
  have h06 := (k6 h.next (by omega)).trans h05
  by_cases cr : (t2.length : Int) < hv.r
  ·have d : decide ((t2.length : Int) < hv.r) = true := decide_eq_true cr
   have en : nodeP unp (w :: t) = none := by simp only [nodeP, hu, ht]; rw [if_neg (by omega)]
   rw [en] at e
   simp (maxSteps := 2000000) -implicitDefEqProofs (disch := (first | omega | rfl | assumption | (simp only [rsD]; first | omega | assumption))) only [hb5, hb6, d, hf6, h06, hf5, h05, f0, f1, Nat.reduceAdd, Nat.reduceMul, Nat.reduceLT, Int.reduceToNat, Int.reduceAdd, Int.reduceSub, Int.reduceMul, rsU, rsC]
   exact Ok_some.2 ⟨Q, aN, hg, e, rfl, (fin E06).1, (fin E06).2⟩
  have d : decide ((t2.length : Int) < hv.r) = false := decide_eq_false cr
  have en : nodeP unp (w :: t) = some (⟨hv, P, t2.take hv.r.toNat⟩, t2.drop hv.r.toNat) := by simp only [nodeP, hu, ht]; rw [if_pos (by omega)]
  rw [en] at e
  simp only at e
  have d4 : decide ((0 : Int) <= hv.r) = true := decide_eq_true kr.1
  have d5 : decide (hv.r <= (t2.length : Int)) = true := decide_eq_true (by omega)
  have d6 : decide ((t2.length : Int) <= (t2.length : Int)) = true := decide_eq_true (by omega)
  obtain ⟨a5, g5, i5⟩ := i4.imm.adv (lo := 0) (m := hv.r.toNat) (by omega)
  obtain ⟨a6, g6, i6⟩ := ints_adv i4 (n := hv.r.toNat) (by omega)
  simp only [Nat.mul_one, List.drop_zero] at i5
  rw [<- List.map_take] at i5
  have r5 : ((J6.bump 2).put J6.next (.cells true 54 [])).rdSl a5 hv.r.toNat 1 = some ((t2.take hv.r.toNat).map (AV.i .u64)) := (i5 O _).rdSl
  rw [<- n6]
  simp (maxSteps := 2000000) -implicitDefEqProofs (disch := (first | omega | rfl | assumption | (simp only [rsD]; first | omega | assumption))) only [hb5, hb6, d, d4, d5, d6, g5, r5, Nat.sub_zero, f0, f1, Nat.reduceAdd, Nat.reduceMul, Nat.reduceLT, Int.reduceToNat, Int.reduceAdd, Int.reduceSub, Int.reduceMul, rsU, rsC]
  have hRl : (t2.take hv.r.toNat).length = hv.r.toNat := by rw [List.length_take]; omega
  refine Ok.step (cpyN_ok (by rw [List.length_map, hRl])) fun q ⟨dd, g7, own7, E7, f7⟩ => ?_
  obtain ⟨q, J7⟩ := q
  simp only at g7 own7 E7 f7
  subst g7
  have n7 := E7.next
  have x7 := (E7.blk J2.next (by omega)).trans x6
  have hb7 := (E7.blk J'.next (by omega)).trans hb6
  have hf7 := (E7.blk h2.next (by omega)).trans hf6
  have E07 := E06.trans E7
  simp (maxSteps := 2000000) -implicitDefEqProofs (disch := (first | omega | rfl | assumption | (simp only [rsD]; first | omega | assumption))) only [x7, hb7, Nat.reduceAdd, Nat.reduceMul, Nat.reduceLT, Int.reduceToNat, Int.reduceAdd, Int.reduceSub, Int.reduceMul, rsU, rsC]
  generalize hJ : J7.put J2.next _ = J8
  have n8 : J8.next = J7.next := by rw [<- hJ]; rfl
  have k8 : ∀ b, b ≠ J2.next -> J8.blk b = J7.blk b := fun b hb => by rw [<- hJ]; exact s_bn hb
  have x8 : J8.blk J2.next = some (.cells true 97 [.i .i64 hv.p, .i .i64 hv.r, .i .i64 hv.site, .i .i64 hv.age, .b hv.large, .sl a3 P.length, .sl dd hv.r.toNat]) := by rw [<- hJ]; exact s_bs
  clear hJ
  have E08 : Ext J' J8 := ⟨by omega, fun b hb => (k8 b (by omega)).trans (E07.blk b hb)⟩
  have hb8 := (k8 J'.next (by omega)).trans hb7
  have hf8 := (k8 h2.next (by omega)).trans hf7
  have own8 := own7.of (by omega) fun b hb => k8 b (by have := f7 b hb; omega)
  rw [<- n8]
  simp (maxSteps := 2000000) -implicitDefEqProofs (disch := (first | omega | rfl | assumption | (simp only [rsD]; first | omega | assumption))) only [hb7, hb8, d4, d5, d6, g6, hf7, hf8, x8, Int.toNat_natCast, Nat.reduceAdd, Nat.reduceMul, Nat.reduceLT, Int.reduceToNat, Int.reduceAdd, Int.reduceSub, Int.reduceMul, rsU, rsC]
  obtain ⟨x, hx⟩ : ∃ x : NV, x = ⟨hv, P, t2.take hv.r.toNat⟩ := ⟨_, rfl⟩
  have hxR : x.R.length = hv.r.toNat := by rw [hx]; exact hRl
  have hcell : [.i .i64 hv.p, .i .i64 hv.r, .i .i64 hv.site, .i .i64 hv.age, .b hv.large, .sl a3 P.length, .sl dd hv.r.toNat] = x.cells a3 dd := by
   unfold NV.cells
   rw [hxR, hx]
  have own8' : OwnS J8 54 1 dd x.R.length (x.R.map (AV.i .u64)) := by rw [hxR, hx]; exact own8
  have i3' : Ints .i64 a3 x.P := by rw [hx]; exact i3
  have nN : New J' J8 (rowQ (x, a3)) (x.cells a3 dd) := ⟨E08, SA.bk dd, rowQ_own i3' own8', fun b hb => by have := f7 b hb; omega⟩
  rw [hcell]
  rw [<- hx] at e
  refine Ok.step (bl.app1 (x := (x, a3)) nC nN (((Ext.refl J8).bump 2).put (Nat.le_refl _) _) (show J8.next <= J8.next + 1 by omega) (by simp)) fun q ⟨aM, g9, bl9, n9, k9, _⟩ => ?_
  obtain ⟨q, J9⟩ := q
  simp only at g9 bl9 n9 k9
  subst g9
  have nin : h2.next ∉ SA.bk aN := fun h => by have := (bl.bk _ h).1; omega
  have hf9 := (k9 h2.next (by omega) nin).trans ((s_bn (by omega)).trans hf8)
  simp (maxSteps := 2000000) -implicitDefEqProofs (disch := (first | omega | rfl | assumption | (simp only [rsD]; first | omega | assumption))) only [hf9, Nat.reduceAdd, Nat.reduceMul, Nat.reduceLT, Int.reduceToNat, Int.reduceAdd, Int.reduceSub, Int.reduceMul, rsU, rsC]
  have hrest : (t2.drop hv.r.toNat).length = t2.length - hv.r.toNat := List.length_drop
  simp only [put_next, bump_next] at n9
  refine Ok_some.2 ⟨a6, t2.drop hv.r.toNat, Q ++ [(x, a3)], aM, _, by rw [hrest]; rfl, i6, fun y hy => ht2 y (List.mem_of_mem_drop hy), by rw [hrest]; omega, by simp, fun q hq => ?_, ?_, ?_, by rw [s_bs]; simp, ?_⟩
  ·rcases List.mem_append.1 hq with h | h
   ·exact hg q h
   ·simp at h; subst h; exact i3'
  ·rw [e]
   cases nodesP unp (c.toNat - (Q.length + 1)) (t2.drop hv.r.toNat) with
   | none => rfl
   | some p => simp
  ·exact bl9.keep (by simp) fun b hb _ => s_bn (by omega)
  ·refine Chg.put ⟨by omega, fun b hb hm => ?_⟩ (by simp) _
   rw [k9 b (by omega) (fun h => by have := (bl.bk _ h).1; omega), s_bn (by omega)]
   show J8.blk b = J.blk b
   rw [E08.blk b (by omega)]
   exact C.blk b hb hm
 ·rintro _ ⟨a', l', Q, aN, J', rfl, hl', hm, hll, hQ, hg, e, bl, hf', C⟩
  have ec : IntKind.i64.wrap c = c := i64_id (by omega) (by omega)
  have dk : decide (((c.toNat : Nat) : Int) < c) = false := decide_eq_false (by omega)
  rw [Nat.sub_self] at e
  simp only [nodesP, List.append_nil] at e
  simp (maxSteps := 2000000) -implicitDefEqProofs (disch := (first | omega | rfl | assumption | (simp only [rsD]; first | omega | assumption))) only [haymowref41_form_L1, ec, dk, Nat.reduceAdd, Nat.reduceMul, Nat.reduceLT, Int.reduceToNat, Int.reduceAdd, Int.reduceSub, Int.reduceMul, rsU, rsC]
  exact Ok_some.2 ⟨a', l', Q, aN, rfl, hl', hm, hll, hg, e, bl, hf', C⟩
 ·simp only [Nat.sub_zero, List.map_nil, List.nil_append]
  cases nodesP unp c.toNat l with
  | none => rfl
  | some q => rfl
end Go.Abs.Try
namespace Go.Abs.Try
open Go Go.Abs
variable {O : Type}
theorem nodeP_few {l r : List Int} {x : NV} (h : nodeP unp l = some (x, r)) : x.few := by
 cases l with
 | nil => cases h
 | cons w l =>
  simp only [nodeP] at h
  cases hu : unp w with
  | none => rw [hu] at h; cases h
  | some hv =>
   rw [hu] at h
   simp only at h
   obtain ⟨kp, kr, _⟩ := hdP_rng (unp_P hu)
   cases ht : takeP hv.p.toNat l with
   | none => rw [ht] at h; cases h
   | some q =>
    obtain ⟨P, t⟩ := q
    rw [ht] at h
    simp only at h
    obtain ⟨e1, _⟩ := takeP_some ht
    split at h
    ·cases h
     refine ⟨?_, ?_⟩
     ·simp only; rw [e1, List.length_take]; omega
     ·simp only; rw [List.length_take]; omega
    ·cases h
theorem nodesP_few : ∀ (n : Nat) {l r : List Int} {N : List NV}, nodesP unp n l = some (N, r) -> N.length = n /\ ∀ x ∈ N, x.few
 | 0, l, r, N, h => by
  simp only [nodesP] at h
  cases h
  exact ⟨rfl, fun x hx => by cases hx⟩
 | n + 1, l, r, N, h => by
  rw [nodesP_succ] at h
  cases hx : nodeP unp l with
  | none => rw [hx] at h; cases h
  | some q =>
   obtain ⟨x, t⟩ := q
   rw [hx] at h
   simp only at h
   cases hn : nodesP unp n t with
   | none => rw [hn] at h; cases h
   | some p =>
    obtain ⟨M, t2⟩ := p
    rw [hn] at h
    simp only at h
    cases h
    obtain ⟨g1, g2⟩ := nodesP_few n hn
    refine ⟨by simp [g1], fun y hy => ?_⟩
    rcases List.mem_cons.1 hy with rfl | hy
    ·exact nodeP_few hx
    ·exact g2 y hy
theorem countP_len {l r P : List Int} (h : countP_ l = some (P, r)) : P.length <= l.length /\ r.length <= l.length /\ ∀ x ∈ r, x ∈ l := by
 cases l with
 | nil => cases h
 | cons c l =>
  simp only [countP_] at h
  split at h
  ·obtain ⟨e1, e2, _⟩ := takeP_some h
   refine ⟨by rw [e1, List.length_take]; simp; omega, by rw [e2, List.length_drop]; simp; omega, fun x hx => List.mem_cons_of_mem _ (by rw [e2] at hx; exact List.mem_of_mem_drop hx)⟩
  ·cases h
def FormV (l : List Int) (ts : List TV) (rest : List AV) : Prop := ∃ Q R W, GoodQ Q /\ ts = rowsQ Q R W /\ rest = [.b (formW l).isSome] /\ ∀ F, formW l = some F -> (⟨Q.map Prod.fst, R, W⟩ : FV) = F
theorem rform_ok {J : AH O} {a : SA} {l : List Int} (hl : Ints .u64 a l) (hw : ∀ x ∈ l, 0 <= x /\ x < 18446744073709551616) (hs : l.length <= 90000) :
  Ok (haymowref41_form [.sl a l.length] J) fun r => (∃ G v, r.1 = .tup [v, .b (formW l).isSome] /\ FV.At G v /\ ∀ F, formW l = some F -> G = F) /\ Ext J r.2 := by
 suffices key : Ok (haymowref41_form_c haymowref12_Unpack haymowref41_take haymowref41_counted haymowref40_Right [.sl a l.length] J) fun r => ∃ ts vs rest, r.1 = .tup (.agg vs :: rest) /\ New J r.2 ts vs /\ (∀ t ∈ ts, t.deep 5) /\ rest.all AV.flat = true /\ FormV l ts rest from
  (frz_aggsE (s := haymowref41_form_c haymowref12_Unpack haymowref41_take haymowref41_counted haymowref40_Right) key).mono fun r ⟨⟨ts, vs, rest, e, hi, Q, R, W, hg, e1, e2, h3⟩, E⟩ => by
   subst e1 e2
   exact ⟨⟨_, .agg vs, e, rowsQ_at hg hi, h3⟩, E⟩
 have fin : ∀ {J9 : AH O} {x : Blk O} {aN : SA} {b c : SA} {Q R W base}, Ext J J9 -> J.next <= base -> J.next < base -> BldO base J9 97 7 rowQ aN Q -> GoodQ Q -> Ints .i64 b R -> Ints .i64 c W -> (∀ F, formW l = some F -> (⟨Q.map Prod.fst, R, W⟩ : FV) = F) ->
   ∃ ts vs rest, (AV.tup [.agg [.sl aN Q.length, .sl b R.length, .sl c W.length], .b (formW l).isSome]) = .tup (.agg vs :: rest) /\ New J (J9.put J.next x) ts vs /\ (∀ t ∈ ts, t.deep 5) /\ rest.all AV.flat = true /\ FormV l ts rest := by
  intro J9 x aN b c Q R W base E hb hb2 bl hg i1 i2 hF
  refine ⟨rowsQ Q R W, _, _, rfl, ?_, rowsQ_deep Q R W 3, rfl, Q, R, W, hg, rfl, rfl, hF⟩
  have bl' : BldO base (J9.put J.next x) 97 7 rowQ aN Q := bl.keep (by simp) fun q hq _ => s_bn (by omega)
  exact (BldO.out bl' (E.put (Nat.le_refl _) _) hb).app (New.im (.cons (ints_mk i1) (.cons (ints_mk i2) .nil)) (Ext.refl _))
 have fin0 : ∀ {J9 : AH O} {aN : SA} {b c : SA} {Q R W base}, Ext J J9 -> J.next <= base -> BldO base J9 97 7 rowQ aN Q -> GoodQ Q -> Ints .i64 b R -> Ints .i64 c W -> (∀ F, formW l = some F -> (⟨Q.map Prod.fst, R, W⟩ : FV) = F) ->
   ∃ ts vs rest, (AV.tup [.agg [.sl aN Q.length, .sl b R.length, .sl c W.length], .b (formW l).isSome]) = .tup (.agg vs :: rest) /\ New J J9 ts vs /\ (∀ t ∈ ts, t.deep 5) /\ rest.all AV.flat = true /\ FormV l ts rest := by
  intro J9 aN b c Q R W base E hb bl hg i1 i2 hF
  refine ⟨rowsQ Q R W, _, _, rfl, ?_, rowsQ_deep Q R W 3, rfl, Q, R, W, hg, rfl, rfl, hF⟩
  exact (BldO.out bl E hb).app (New.im (.cons (ints_mk i1) (.cons (ints_mk i2) .nil)) (Ext.refl _))
 have nI : Ints .i64 .nil [] := Row.nil (int1_len _)
 have nQ : GoodQ [] := fun q hq => by cases hq
 have f0 : (false == false) = true := rfl
 have f1 : (true == false) = false := rfl
 have t1 : (true == true) = true := rfl
 have t2 : (false == true) = false := rfl
 simp (maxSteps := 2000000) -implicitDefEqProofs (disch := (first | omega | rfl | assumption | (simp only [rsD]; first | omega | assumption))) only [haymowref41_form_c, Nat.reduceAdd, Nat.reduceMul, Nat.reduceLT, Int.reduceToNat, Int.reduceAdd, Int.reduceSub, Int.reduceMul, rsU, rsC]
 generalize hJ : (((J.bump 1).put J.next _).bump 1).put (J.next + 1) _ = J1
 obtain ⟨E1, n1, b1, x1⟩ := box2' hJ
 clear hJ
 have none0 : formW l = none -> (formW l).isSome = false := fun h => by rw [h]; rfl
 have noneF : formW l = none -> ∀ {G : FV}, ∀ F, formW l = some F -> G = F := fun h G F e => by rw [h] at e; cases e
 cases l with
 | nil =>
  have d0 : (((0 : Nat) : Int) == 0) = true := rfl
  simp (maxSteps := 2000000) -implicitDefEqProofs (disch := (first | omega | rfl | assumption | (simp only [rsD]; first | omega | assumption))) only [List.length_nil, d0, x1, b1, f0, f1, Nat.reduceAdd, Nat.reduceMul, Nat.reduceLT, Int.reduceToNat, Int.reduceAdd, Int.reduceSub, Int.reduceMul, rsU, rsC]
  exact Ok_some.2 (fin (x := .cells true 33 [.sl .nil 0, .sl .nil 0, .sl .nil 0]) (base := J.next + 1) E1 (by omega) (by omega) (BldO.nil _ _ _ rowQ_len) nQ nI nI (noneF rfl))
 | cons c l =>
 obtain ⟨bb, oo, r1, ld⟩ := ints_ref hl (i := 0) (x := c) rfl
 have ld := ld O J1
 rw [Nat.add_zero] at ld
 obtain ⟨a2, g2, i2⟩ := ints_adv hl (n := 1) (by simp)
 simp only [List.drop_succ_cons, List.drop_zero] at i2
 simp only [List.length_cons] at hs
 have hc := hw c List.mem_cons_self
 have hwl : ∀ x ∈ l, 0 <= x /\ x < 18446744073709551616 := fun x hx => hw x (List.mem_cons_of_mem _ hx)
 have d0 : (((l.length + 1 : Nat) : Int) == 0) = false := by simp; omega
 have d1 : decide ((0 : Int) < ((l.length + 1 : Nat) : Int)) = true := decide_eq_true (by omega)
 have d2 : decide ((1 : Int) <= ((l.length + 1 : Nat) : Int)) = true := decide_eq_true (by omega)
 have d3 : decide (((l.length + 1 : Nat) : Int) <= ((l.length + 1 : Nat) : Int)) = true := decide_eq_true (by omega)
 have e1 : IntKind.u64.wrap (((l.length + 1 : Nat) : Int)) = ((l.length + 1 : Nat) : Int) := u64_id (by omega) (by omega)
 by_cases cc : c > ((l.length + 1 : Nat) : Int)
 ·have d : decide (c > ((l.length + 1 : Nat) : Int)) = true := decide_eq_true cc
  have hn : formW (c :: l) = none := by
   simp only [formP]
   rw [if_neg (by omega)]
  simp (maxSteps := 2000000) -implicitDefEqProofs (disch := (first | omega | rfl | assumption | (simp only [rsD]; first | omega | assumption))) only [List.length_cons, d0, d1, r1, ld, e1, d, x1, b1, f0, f1, Nat.reduceAdd, Nat.reduceMul, Nat.reduceLT, Int.reduceToNat, Int.reduceAdd, Int.reduceSub, Int.reduceMul, rsU, rsC]
  rw [<- none0 hn]
  exact Ok_some.2 (fin (x := .cells true 33 [.sl .nil 0, .sl .nil 0, .sl .nil 0]) (base := J.next + 1) E1 (by omega) (by omega) (BldO.nil _ _ _ rowQ_len) nQ nI nI (noneF hn))
 have d : decide (c > ((l.length + 1 : Nat) : Int)) = false := decide_eq_false cc
 simp (maxSteps := 2000000) -implicitDefEqProofs (disch := (first | omega | rfl | assumption | (simp only [rsD]; first | omega | assumption))) only [List.length_cons, d0, d1, d2, d3, r1, ld, e1, d, f0, f1, g2, Int.toNat_natCast, Nat.add_sub_cancel, Nat.reduceAdd, Nat.reduceMul, Nat.reduceLT, Int.reduceToNat, Int.reduceAdd, Int.reduceSub, Int.reduceMul, rsU, rsC]
 have n26 : ((J.bump 1).put J.next (.cells true 33 [.sl .nil 0, .sl .nil 0, .sl .nil 0])).next = J.next + 1 := rfl
 generalize (J.bump 1).put J.next (.cells true 33 [.sl .nil 0, .sl .nil 0, .sl .nil 0]) = h2 at *
 rw [<- n26] at x1
 have hFW : formW (c :: l) = if c <= l.length then (match nodesP unp c.toNat l with
   | none => none
   | some (N, r1) => match countP_ r1 with
    | none => none
    | some (R, r2) => match countP_ r2 with
     | none => none
     | some (K, r3) => if r3 = [] /\ rightP ⟨N, R, K⟩ = true then some ⟨N, R, K⟩ else none) else none := rfl
 refine Ok.bindS (floop_ok (h := J) (h2 := h2) (c := c) i2 hwl (by omega) ⟨hc.1, by omega⟩ x1 b1 (by omega) (by omega) (by omega)) (fun s hs' => ?_) (fun r hr => ?_)
 case refine_2 =>
  obtain ⟨Q, aN, hg, e, e2, bl, C⟩ := hr
  have hn : formW (c :: l) = none := by rw [hFW, e]; simp
  rw [e2, <- none0 hn]
  exact fin0 (Chg.toExt E1 C (by simp; omega)) (by omega) bl hg nI nI (noneF hn)
 obtain ⟨s, J5⟩ := s
 obtain ⟨a', rest, Q, aN, e2, ir, hmem, hlen, hg, e, bl, x5, C⟩ := hs'
 simp only at e2 bl x5 C
 subst e2
 have hcl : c <= l.length := by
  have := (nodesP_some (pck := pck) (fun w v _ h => unp_pck h) _ e fun w hw' => (hwl w hw').1).2.2.1
  omega
 rw [if_pos hcl, e] at hFW
 simp only at hFW
 obtain ⟨few1, few2⟩ := nodesP_few _ e
 have n5 := C.next
 have b5 := (C.blk J.next (by omega) (by simp; omega)).trans b1
 have E5 : Ext J J5 := Chg.toExt E1 C (by simp; omega)
 rw [n26] at x5
 simp (maxSteps := 2000000) -implicitDefEqProofs (disch := (first | omega | rfl | assumption | (simp only [rsD]; first | omega | assumption))) only [Nat.reduceAdd, Nat.reduceMul, Nat.reduceLT, Int.reduceToNat, Int.reduceAdd, Int.reduceSub, Int.reduceMul, rsU, rsC]
 refine Ok.step (counted_ok ir (fun x hx => hwl x (hmem x hx)) (by omega)) fun q ⟨g1, E6⟩ => ?_
 obtain ⟨q, J6⟩ := q
 simp only at g1 E6
 have n6 := E6.next
 have E06 := E5.trans E6
 have x6 := (E6.blk (J.next + 1) (by omega)).trans x5
 have b6 := (E6.blk J.next (by omega)).trans b5
 have bl6 := bl.ext E6
 have blp : ∀ {J9 : AH O}, BldO J1.next J9 97 7 rowQ aN Q -> ∀ x, BldO J1.next (J9.put (J.next + 1) x) 97 7 rowQ aN Q := fun h x => h.keep (by simp) fun b hb _ => s_bn (by omega)
 cases hr1 : countP_ rest with
 | none =>
  rw [hr1] at g1 hFW
  simp only at hFW
  unfold TakeV at g1
  simp only at g1
  subst g1
  simp (maxSteps := 2000000) -implicitDefEqProofs (disch := (first | omega | rfl | assumption | (simp only [rsD]; first | omega | assumption))) only [x6, b6, f0, f1, Nat.reduceAdd, Nat.reduceMul, Nat.reduceLT, Int.reduceToNat, Int.reduceAdd, Int.reduceSub, Int.reduceMul, rsU, rsC]
  rw [<- none0 hFW]
  exact Ok_some.2 (fin (base := J1.next) (E06.put (by omega) _) (by omega) (by omega) (blp bl6 _) hg nI nI (noneF hFW))
 | some p =>
 obtain ⟨R, r2⟩ := p
 rw [hr1] at g1 hFW
 simp only at hFW
 unfold TakeV at g1
 simp only at g1
 obtain ⟨aR, a3, g1, iR, i3⟩ := g1
 subst g1
 obtain ⟨lenR, len2, mem2⟩ := countP_len hr1
 simp (maxSteps := 2000000) -implicitDefEqProofs (disch := (first | omega | rfl | assumption | (simp only [rsD]; first | omega | assumption))) only [x6, f0, f1, Nat.reduceAdd, Nat.reduceMul, Nat.reduceLT, Int.reduceToNat, Int.reduceAdd, Int.reduceSub, Int.reduceMul, rsU, rsC]
 generalize hJ : J6.put (J.next + 1) _ = J7
 have n7 : J7.next = J6.next := by rw [<- hJ]; rfl
 have k7 : ∀ b, b ≠ J.next + 1 -> J7.blk b = J6.blk b := fun b hb => by rw [<- hJ]; exact s_bn hb
 have x7 : J7.blk (J.next + 1) = some (.cells true 33 [.sl aN Q.length, .sl aR R.length, .sl .nil 0]) := by rw [<- hJ]; exact s_bs
 clear hJ
 have E07 : Ext J J7 := ⟨by omega, fun b hb => (k7 b (by omega)).trans (E06.blk b hb)⟩
 have bl7 : BldO J1.next J7 97 7 rowQ aN Q := bl6.keep (by omega) fun b hb _ => k7 b (by omega)
 have b7 := (k7 J.next (by omega)).trans b6
 refine Ok.step (counted_ok i3 (fun x hx => hwl x (hmem x (mem2 x hx))) (by omega)) fun q ⟨g1, E8⟩ => ?_
 obtain ⟨q, J8⟩ := q
 simp only at g1 E8
 have n8 := E8.next
 have E08 := E07.trans E8
 have x8 := (E8.blk (J.next + 1) (by omega)).trans x7
 have b8 := (E8.blk J.next (by omega)).trans b7
 have bl8 := bl7.ext E8
 cases hr2 : countP_ r2 with
 | none =>
  rw [hr2] at g1 hFW
  simp only at hFW
  unfold TakeV at g1
  simp only at g1
  subst g1
  simp (maxSteps := 2000000) -implicitDefEqProofs (disch := (first | omega | rfl | assumption | (simp only [rsD]; first | omega | assumption))) only [x8, b8, f0, f1, t1, t2, Nat.reduceAdd, Nat.reduceMul, Nat.reduceLT, Int.reduceToNat, Int.reduceAdd, Int.reduceSub, Int.reduceMul, rsU, rsC]
  rw [<- none0 hFW]
  exact Ok_some.2 (fin (base := J1.next) (E08.put (by omega) _) (by omega) (by omega) (blp bl8 _) hg iR nI (noneF hFW))
 | some p =>
 obtain ⟨K, r3⟩ := p
 rw [hr2] at g1 hFW
 simp only at hFW
 unfold TakeV at g1
 simp only at g1
 obtain ⟨aK, a4, g1, iK, i4⟩ := g1
 subst g1
 obtain ⟨lenK, len3, _⟩ := countP_len hr2
 cases hz : (r3.length : Int) == 0 with
 | false =>
  have hn : formW (c :: l) = none := by
   rw [hFW, if_neg]
   rintro ⟨rfl, _⟩
   simp at hz
  simp (maxSteps := 2000000) -implicitDefEqProofs (disch := (first | omega | rfl | assumption | (simp only [rsD]; first | omega | assumption))) only [x8, b8, hz, f0, f1, t1, t2, Nat.reduceAdd, Nat.reduceMul, Nat.reduceLT, Int.reduceToNat, Int.reduceAdd, Int.reduceSub, Int.reduceMul, rsU, rsC]
  rw [<- none0 hn]
  exact Ok_some.2 (fin (base := J1.next) (E08.put (by omega) _) (by omega) (by omega) (blp bl8 _) hg iR iK (noneF hn))
 | true =>
 have hr3 : r3 = [] := List.length_eq_zero_iff.1 (by have := beq_iff_eq.1 hz; omega)
 simp (maxSteps := 2000000) -implicitDefEqProofs (disch := (first | omega | rfl | assumption | (simp only [rsD]; first | omega | assumption))) only [x8, hz, f0, f1, t1, t2, Nat.reduceAdd, Nat.reduceMul, Nat.reduceLT, Int.reduceToNat, Int.reduceAdd, Int.reduceSub, Int.reduceMul, rsU, rsC]
 generalize hJ : J8.put (J.next + 1) _ = J9
 have n9 : J9.next = J8.next := by rw [<- hJ]; rfl
 have k9 : ∀ b, b ≠ J.next + 1 -> J9.blk b = J8.blk b := fun b hb => by rw [<- hJ]; exact s_bn hb
 have x9 : J9.blk (J.next + 1) = some (.cells true 33 [.sl aN Q.length, .sl aR R.length, .sl aK K.length]) := by rw [<- hJ]; exact s_bs
 clear hJ
 have E09 : Ext J J9 := ⟨by omega, fun b hb => (k9 b (by omega)).trans (E08.blk b hb)⟩
 have bl9 : BldO J1.next J9 97 7 rowQ aN Q := bl8.keep (by omega) fun b hb _ => k9 b (by omega)
 have b9 := (k9 J.next (by omega)).trans b8
 have fR : FRd J9 ⟨Q.map Prod.fst, R, K⟩ (.agg [.sl aN Q.length, .sl aR R.length, .sl aK K.length]) := ⟨aN, aR, aK, by simp only [List.length_map], NodesR.bldO bl9 hg, iR, iK⟩
 refine Ok.step (rright_ok fR ⟨by simp only; omega, few2, by simp only; omega, by simp only; omega⟩) fun q ⟨g1, EA⟩ => ?_
 obtain ⟨q, JA⟩ := q
 simp only at g1 EA
 subst g1
 have nA := EA.next
 have xA := (EA.blk (J.next + 1) (by omega)).trans x9
 have bA := (EA.blk J.next (by omega)).trans b9
 have E0A := E09.trans EA
 have blA := bl9.ext EA
 have hres : (formW (c :: l)).isSome = rightP ⟨Q.map Prod.fst, R, K⟩ := by
  rw [hFW, hr3]
  cases hh : rightP ⟨Q.map Prod.fst, R, K⟩ with
  | true => rw [if_pos ⟨rfl, rfl⟩]; rfl
  | false => rw [if_neg (by simp)]; rfl
 simp (maxSteps := 2000000) -implicitDefEqProofs (disch := (first | omega | rfl | assumption | (simp only [rsD]; first | omega | assumption))) only [xA, bA, s_chkT, f0, f1, Nat.reduceAdd, Nat.reduceMul, Nat.reduceLT, Int.reduceToNat, Int.reduceAdd, Int.reduceSub, Int.reduceMul, rsU, rsC]
 rw [<- hres]
 exact Ok_some.2 (fin (base := J1.next) E0A (by omega) (by omega) blA hg iR iK fun F hF => by
  rw [hFW] at hF
  split at hF
  ·cases hF; rfl
  ·cases hF)
end Go.Abs.Try
