/-
  The document's form of bytes. No conditions.
-/
import Derived.Test.YthkpjongjnjfgaaI20
import Derived.Test.YthkpjongjnjfgaaI16
import Derived.Test.YthkpjongjnjfgaaI6w
import Derived.Test.YthkpjongjnjfgaaI10
set_option linter.unusedVariables false
set_option linter.unusedSimpArgs false
set_option linter.constructorNameAsVariable false
set_option linter.unusedSimpArgs false
set_option linter.unusedVariables false
set_option maxHeartbeats 4000000
namespace Go.Abs.Try
open Go Go.Abs
variable {O : Type}
def u8s (bs : List Int) : List UInt8 := bs.map fun n => UInt8.ofNat n.toNat
theorem asBytes_ok : ∀ bs : List Int, asBytes (bs.map (AV.i .u8)) = some (u8s bs)
 | [] => rfl
 | b :: bs => by
  have := asBytes_ok bs
  simp only [List.map_cons, asBytes, this, Option.map_some]; rfl
theorem u8s_inj : ∀ {a b : List Int}, Bytes a -> Bytes b -> u8s a = u8s b -> a = b
 | [], [], _, _, _ => rfl
 | [], _ :: _, _, _, h => by cases h
 | _ :: _, [], _, _, h => by cases h
 | x :: a, y :: b, ha, hb, h => by
  simp only [u8s, List.map_cons, List.cons.injEq] at h
  have hx := ha.head
  have hy := hb.head
  have e : x.toNat = y.toNat := by
   have := congrArg UInt8.toNat h.1
   simp only [UInt8.toNat_ofNat'] at this
   omega
  rw [u8s_inj ha.tail hb.tail h.2, show x = y by omega]
theorem u8s_beq {a b : List Int} (ha : Bytes a) (hb : Bytes b) : (u8s a == u8s b) = decide (a = b) := by
 by_cases h : a = b
 ·subst h; simp
 ·rw [decide_eq_false h]
  exact beq_eq_false_iff_ne.2 fun e => h (u8s_inj ha hb e)
theorem rget_ok {J : AH O} {a : SA} {n : Nat} {bs : List Int} (hr : Rd J 1 a n (bs.map (AV.i .u8))) (ho : Old J a) (hb : Bytes bs) (hn : n <= 80000) :
  Ok (haymowref41_Get [.sl a n] J) fun r => (∃ v, r.1 = .tup [v, .i .i64 (getI bs).2] /\ (getI bs).1.At v) /\ Ext J r.2 := by
 suffices h : Ok (haymowref41_Get_c haymowref06_Seal haymowref05_Split haymowref41_form [.sl a n] J) fun r => ∃ vs, r.1 = .tup (.agg vs :: [.i .i64 (getI bs).2]) /\ New J r.2 ((getI bs).1.rowE 97) vs from
  (frz_aggs (s := haymowref41_Get_c haymowref06_Seal haymowref05_Split haymowref41_form) ((getI bs).1.deepE (d := 3)) rfl h).mono fun r ⟨⟨vs, e, hi⟩, E⟩ => ⟨⟨.agg vs, e, FV.rowE_at hi⟩, E⟩
 have hl : bs.length = n := by have := hr.len; simpa using this
 have nilRow : ∀ {J' : AH O}, Ext J J' -> New J J' (zeroF.rowE 97) [.sl .nil 0, .sl .nil 0, .sl .nil 0] := fun E =>
  New.im (.cons ((Row.nil NV.len).im _) (.cons (ints_mk (Row.nil (int1_len _))) (.cons (ints_mk (Row.nil (int1_len _))) .nil))) E
 have f0 : (false == false) = true := rfl
 have f1 : (true == false) = false := rfl
 by_cases h8 : n < 8
 ·have d : decide ((n : Int) < 8) = true := decide_eq_true (by omega)
  have eG : getI bs = (zeroF, 6) := by
   have : openF bs = ([], 6) := by unfold openF; rw [if_pos (by omega)]
   unfold getI
   rw [this]; rfl
  rw [eG]
  simp (maxSteps := 2000000) -implicitDefEqProofs (disch := (first | omega | rfl | assumption | (simp only [rsD]; first | omega | assumption))) only [haymowref41_Get_c, d, Nat.reduceAdd, Nat.reduceMul, Nat.reduceLT, Int.reduceToNat, Int.reduceAdd, Int.reduceSub, Int.reduceMul, rsU, rsC]
  exact Ok_some.2 ⟨_, rfl, nilRow (((Ext.refl J).bump 1).put (Nat.le_refl _) _)⟩
 have d : decide ((n : Int) < 8) = false := decide_eq_false (by omega)
 have e1 : IntKind.i64.wrap ((n : Int) - 8) = ((n - 8 : Nat) : Int) := by rw [i64_id (by omega) (by omega)]; omega
 have d0 : decide ((0 : Int) <= ((n - 8 : Nat) : Int)) = true := decide_eq_true (by omega)
 have d2 : decide (((n - 8 : Nat) : Int) <= (n : Int)) = true := decide_eq_true (by omega)
 obtain ⟨a1, g1, g2, g2b⟩ := hr.adv (lo := 0) (m := n - 8) (by omega)
 simp only [Nat.mul_one, List.drop_zero] at g2
 rw [<- List.map_take] at g2
 have o1 : Old J a1 := fun b hb => ho b (by rw [<- g2b]; exact hb)
 have hbt : Bytes (bs.take (n - 8)) := fun x hx => hb x (List.mem_of_mem_take hx)
 have hlt : (bs.take (n - 8)).length = n - 8 := by simp; omega
 have rB : ∀ {x : Blk O}, ((J.bump 1).put J.next x).rdSl a n 1 = some (bs.map (AV.i .u8)) := fun {x} => (hr.of fun b hb => by have := ho b hb; exact s_bn (by omega)).rdSl
 simp (maxSteps := 2000000) -implicitDefEqProofs (disch := (first | omega | rfl | assumption | (simp only [rsD]; first | omega | assumption))) only [haymowref41_Get_c, d, e1, d0, d2, g1, rB, asBytes_ok, Nat.sub_zero, Int.toNat_natCast, Nat.reduceAdd, Nat.reduceMul, Nat.reduceLT, Int.reduceToNat, Int.reduceAdd, Int.reduceSub, Int.reduceMul, rsU, rsC]
 generalize hJ : (J.bump 1).put J.next _ = J1
 obtain ⟨E1, n1, b1⟩ := box1 hJ
 clear hJ
 refine Ok.step (refSeal_ok (g2.lt o1 E1) (fun b hb => by have := o1 b hb; omega) hbt (by omega)) fun q ⟨⟨a2, g3, i2⟩, E2⟩ => ?_
 obtain ⟨q, J2⟩ := q
 simp only at g3 E2
 subst g3
 have n2 := E2.next
 have E02 := E1.trans E2
 have b2 := (E2.blk _ (by omega)).trans b1
 have r2 : J2.rdSl a n 1 = some (bs.map (AV.i .u8)) := (hr.lt ho E02).rdSl
 have r3 : J2.rdSl a2 (sealed (bs.take (n - 8))).length 1 = some ((sealed (bs.take (n - 8))).map (AV.i .u8)) := (i2 O J2).rdSl
 have hq := u8s_beq (sealed_bytes hbt) hb
 have hO : openF bs = if bs = sealed (bs.take (n - 8)) then (bs.take (n - 8), 0) else ([], 60) := by
  unfold openF
  rw [if_neg (by omega), hl]
 by_cases hs : sealed (bs.take (n - 8)) = bs
 case neg =>
  rw [decide_eq_false hs] at hq
  rw [if_neg (fun h => hs h.symm)] at hO
  have eG : getI bs = (zeroF, 60) := by unfold getI; rw [hO]; rfl
  rw [eG]
  simp (maxSteps := 2000000) -implicitDefEqProofs (disch := (first | omega | rfl | assumption | (simp only [rsD]; first | omega | assumption))) only [r2, r3, asBytes_ok, hq, b2, Nat.reduceAdd, Nat.reduceMul, Nat.reduceLT, Int.reduceToNat, Int.reduceAdd, Int.reduceSub, Int.reduceMul, rsU, rsC]
  exact Ok_some.2 ⟨_, rfl, nilRow (E02.put (Nat.le_refl _) _)⟩
 rw [decide_eq_true hs] at hq
 rw [if_pos hs.symm] at hO
 simp (maxSteps := 2000000) -implicitDefEqProofs (disch := (first | omega | rfl | assumption | (simp only [rsD]; first | omega | assumption))) only [r2, r3, asBytes_ok, hq, Nat.reduceAdd, Nat.reduceMul, Nat.reduceLT, Int.reduceToNat, Int.reduceAdd, Int.reduceSub, Int.reduceMul, rsU, rsC]
 refine Ok.step (refSplit_ok (g2.lt o1 E02) (fun b hb => by have := o1 b hb; omega) hbt (by omega)) fun q ⟨⟨a3, g3, i3⟩, E3⟩ => ?_
 obtain ⟨q, J3⟩ := q
 simp only at g3 E3
 subst g3
 have n3 := E3.next
 have b3 := (E3.blk _ (by omega)).trans b2
 have E03 := E02.trans E3
 have eG0 : getI bs = bif (splitF (n - 8) (bs.take (n - 8))).2 == 0 then getW (splitF (n - 8) (bs.take (n - 8))).1 else (zeroF, (splitF (n - 8) (bs.take (n - 8))).2) := by
  unfold getI
  rw [hO]
  simp only [hlt]
  rfl
 have hlt' : (bs.take (n - 8)).length <= n - 8 := Nat.le_of_eq hlt
 generalize bs.take (n - 8) = pl at *
 cases he : (splitF (n - 8) pl).2 == 0 with
 | false =>
  rw [he] at eG0
  rw [eG0]
  simp (maxSteps := 2000000) -implicitDefEqProofs (disch := (first | omega | rfl | assumption | (simp only [rsD]; first | omega | assumption))) only [he, b3, Nat.reduceAdd, Nat.reduceMul, Nat.reduceLT, Int.reduceToNat, Int.reduceAdd, Int.reduceSub, Int.reduceMul, rsU, rsC]
  exact Ok_some.2 ⟨_, rfl, nilRow (E03.put (Nat.le_refl _) _)⟩
 | true =>
 obtain ⟨hen, hW⟩ := splitF_all _ _ hbt hlt' (beq_iff_eq.1 he)
 have hwl := (encs_len hW).1
 rw [hen] at hwl
 rw [he] at eG0
 simp only [cond_true] at eG0
 generalize hll : (splitF (n - 8) pl).1 = l at *
 simp (maxSteps := 2000000) -implicitDefEqProofs (disch := (first | omega | rfl | assumption | (simp only [rsD]; first | omega | assumption))) only [he, Nat.reduceAdd, Nat.reduceMul, Nat.reduceLT, Int.reduceToNat, Int.reduceAdd, Int.reduceSub, Int.reduceMul, rsU, rsC]
 refine Ok.step (rform_ok (J := J3.bump 1) (Ints.mk i3) hW (by omega)) fun q ⟨⟨G, v, g4, hG, hF⟩, E4⟩ => ?_
 obtain ⟨q, J4⟩ := q
 simp only at g4 E4
 subst g4
 have n4 := E4.next
 simp only [bump_next] at n4
 have E04 : Ext J J4 := (E03.bump 1).trans E4
 have b4 := (E4.blk J.next (by simp only [bump_next]; omega)).trans b3
 obtain ⟨xa, xb, xc, rfl, j1, j2, j3⟩ := hG.it
 cases hf : formW l with
 | none =>
  have eG : getI bs = (zeroF, 5) := by rw [eG0]; unfold getW; rw [hf]; rfl
  rw [eG]
  simp (maxSteps := 2000000) -implicitDefEqProofs (disch := (first | omega | rfl | assumption | (simp only [rsD]; first | omega | assumption))) only [Option.isSome, b4, Nat.reduceAdd, Nat.reduceMul, Nat.reduceLT, Int.reduceToNat, Int.reduceAdd, Int.reduceSub, Int.reduceMul, rsU, rsC]
  exact Ok_some.2 ⟨_, rfl, nilRow ((E04.put (b := J3.next) (by omega) _).put (Nat.le_refl _) _)⟩
 | some F =>
  have eG : getI bs = (F, 0) := by rw [eG0]; unfold getW; rw [hf]
  have := hF F hf
  subst this
  rw [eG]
  simp (maxSteps := 2000000) -implicitDefEqProofs (disch := (first | omega | rfl | assumption | (simp only [rsD]; first | omega | assumption))) only [Option.isSome, b4, Nat.reduceAdd, Nat.reduceMul, Nat.reduceLT, Int.reduceToNat, Int.reduceAdd, Int.reduceSub, Int.reduceMul, rsU, rsC]
  exact Ok_some.2 ⟨_, rfl, New.im (.cons (j1.im _) (.cons (ints_mk j2) (.cons (ints_mk j3) .nil))) ((E04.put (b := J3.next) (by omega) _).put (Nat.le_refl _) _)⟩
end Go.Abs.Try
set_option linter.unusedSectionVars false
namespace Go.Abs.Try
open Go Go.Abs
variable {O : Type}
theorem same02 {J : AH O} {a b : SA} {l m : List Int} (ha : Ints .i64 a l) (hb : Ints .i64 b m) (hl : l.length <= 100000) (hm : m.length <= 100000) : Ok (haymowref02_Same [.sl a l.length, .sl b m.length] J) fun r => r = (.b (decide (l = m)), J) := by
 by_cases c : l.length = m.length
 ·have q0 : ((l.length : Int) == (m.length : Int)) = true := s_eqT (by omega)
  simp (maxSteps := 2000000) -implicitDefEqProofs (disch := (first | omega | rfl | assumption | (simp only [rsD]; first | omega | assumption))) only [haymowref02_Same, haymowref02_Same_c, q0, Nat.reduceAdd, Nat.reduceMul, Nat.reduceLT, Int.reduceToNat, Int.reduceAdd, Int.reduceSub, Int.reduceMul, rsU, rsC]
  refine Ok.bindS (Q := fun r => (l = m /\ r = .inl ([], J)) ∨ (l ≠ m /\ r = .inr (.b false, J))) ?_ ?_ ?_
  ·refine eq_loop c (fun k s => s = ([.i .i64 (k : Int)], J)) _ ?_ ?_ rfl
   ·rintro k s hk rfl
    obtain ⟨x, hx⟩ : ∃ x, l[k]? = some x := ⟨_, List.getElem?_eq_getElem hk⟩
    obtain ⟨y, hy⟩ : ∃ y, m[k]? = some y := ⟨_, List.getElem?_eq_getElem (by omega)⟩
    obtain ⟨b1, o1, rfl, l1⟩ := ha.at hx
    obtain ⟨b2, o2, rfl, l2⟩ := hb.at hy
    rw [hx, hy]
    by_cases e : x = y
    ·have q1 := s_eqT e
     simp (maxSteps := 2000000) -implicitDefEqProofs (disch := (first | omega | rfl | assumption | (simp only [rsD]; first | omega | assumption))) only [haymowref02_Same_L1, l1, l2, q1, Nat.reduceAdd, Nat.reduceMul, Nat.reduceLT, Int.reduceToNat, Int.reduceAdd, Int.reduceSub, Int.reduceMul, rsU, rsC]
     exact Ok_some.2 (by rw [if_pos (by rw [e])]; simp)
    ·have q1 := s_eqF e
     simp (maxSteps := 2000000) -implicitDefEqProofs (disch := (first | omega | rfl | assumption | (simp only [rsD]; first | omega | assumption))) only [haymowref02_Same_L1, l1, l2, q1, Nat.reduceAdd, Nat.reduceMul, Nat.reduceLT, Int.reduceToNat, Int.reduceAdd, Int.reduceSub, Int.reduceMul, rsU, rsC]
     exact Ok_some.2 (by rw [if_neg (by simp [e])]; exact fun h => .inr ⟨h, rfl⟩)
   ·rintro s rfl
    simp (maxSteps := 2000000) -implicitDefEqProofs (disch := (first | omega | rfl | assumption | (simp only [rsD]; first | omega | assumption))) only [haymowref02_Same_L1, Nat.reduceAdd, Nat.reduceMul, Nat.reduceLT, Int.reduceToNat, Int.reduceAdd, Int.reduceSub, Int.reduceMul, rsU, rsC]
    exact Ok_some.2 fun h => .inl ⟨h, rfl⟩
  ·rintro s (⟨e, hs⟩ | ⟨_, hs⟩)
   ·cases hs
    exact Ok_some.2 (by simp [e])
   ·cases hs
  ·rintro r (⟨_, hs⟩ | ⟨e, hs⟩)
   ·cases hs
   ·cases hs; simp [e]
 ·have q0 : ((l.length : Int) == (m.length : Int)) = false := s_eqF (by omega)
  simp (maxSteps := 2000000) -implicitDefEqProofs (disch := (first | omega | rfl | assumption | (simp only [rsD]; first | omega | assumption))) only [haymowref02_Same, haymowref02_Same_c, q0, Nat.reduceAdd, Nat.reduceMul, Nat.reduceLT, Int.reduceToNat, Int.reduceAdd, Int.reduceSub, Int.reduceMul, rsU, rsC]
  exact Ok_some.2 (by rw [decide_eq_false (fun e => c (by rw [e]))])
theorem same05 {J : AH O} {a b : SA} {l m : List Int} (ha : Ints .u64 a l) (hb : Ints .u64 b m) (hl : l.length <= 100000) (hm : m.length <= 100000) : Ok (haymowref05_Same [.sl a l.length, .sl b m.length] J) fun r => r = (.b (decide (l = m)), J) := by
 by_cases c : l.length = m.length
 ·have q0 : ((l.length : Int) == (m.length : Int)) = true := s_eqT (by omega)
  simp (maxSteps := 2000000) -implicitDefEqProofs (disch := (first | omega | rfl | assumption | (simp only [rsD]; first | omega | assumption))) only [haymowref05_Same, haymowref05_Same_c, q0, Nat.reduceAdd, Nat.reduceMul, Nat.reduceLT, Int.reduceToNat, Int.reduceAdd, Int.reduceSub, Int.reduceMul, rsU, rsC]
  refine Ok.bindS (Q := fun r => (l = m /\ r = .inl ([], J)) ∨ (l ≠ m /\ r = .inr (.b false, J))) ?_ ?_ ?_
  ·refine eq_loop c (fun k s => s = ([.i .i64 (k : Int)], J)) _ ?_ ?_ rfl
   ·rintro k s hk rfl
    obtain ⟨x, hx⟩ : ∃ x, l[k]? = some x := ⟨_, List.getElem?_eq_getElem hk⟩
    obtain ⟨y, hy⟩ : ∃ y, m[k]? = some y := ⟨_, List.getElem?_eq_getElem (by omega)⟩
    obtain ⟨b1, o1, rfl, l1⟩ := ha.at hx
    obtain ⟨b2, o2, rfl, l2⟩ := hb.at hy
    rw [hx, hy]
    by_cases e : x = y
    ·have q1 := s_eqT e
     simp (maxSteps := 2000000) -implicitDefEqProofs (disch := (first | omega | rfl | assumption | (simp only [rsD]; first | omega | assumption))) only [haymowref05_Same_L1, l1, l2, q1, Nat.reduceAdd, Nat.reduceMul, Nat.reduceLT, Int.reduceToNat, Int.reduceAdd, Int.reduceSub, Int.reduceMul, rsU, rsC]
     exact Ok_some.2 (by rw [if_pos (by rw [e])]; simp)
    ·have q1 := s_eqF e
     simp (maxSteps := 2000000) -implicitDefEqProofs (disch := (first | omega | rfl | assumption | (simp only [rsD]; first | omega | assumption))) only [haymowref05_Same_L1, l1, l2, q1, Nat.reduceAdd, Nat.reduceMul, Nat.reduceLT, Int.reduceToNat, Int.reduceAdd, Int.reduceSub, Int.reduceMul, rsU, rsC]
     exact Ok_some.2 (by rw [if_neg (by simp [e])]; exact fun h => .inr ⟨h, rfl⟩)
   ·rintro s rfl
    simp (maxSteps := 2000000) -implicitDefEqProofs (disch := (first | omega | rfl | assumption | (simp only [rsD]; first | omega | assumption))) only [haymowref05_Same_L1, Nat.reduceAdd, Nat.reduceMul, Nat.reduceLT, Int.reduceToNat, Int.reduceAdd, Int.reduceSub, Int.reduceMul, rsU, rsC]
    exact Ok_some.2 fun h => .inl ⟨h, rfl⟩
  ·rintro s (⟨e, hs⟩ | ⟨_, hs⟩)
   ·cases hs
    exact Ok_some.2 (by simp [e])
   ·cases hs
  ·rintro r (⟨_, hs⟩ | ⟨e, hs⟩)
   ·cases hs
   ·cases hs; simp [e]
 ·have q0 : ((l.length : Int) == (m.length : Int)) = false := s_eqF (by omega)
  simp (maxSteps := 2000000) -implicitDefEqProofs (disch := (first | omega | rfl | assumption | (simp only [rsD]; first | omega | assumption))) only [haymowref05_Same, haymowref05_Same_c, q0, Nat.reduceAdd, Nat.reduceMul, Nat.reduceLT, Int.reduceToNat, Int.reduceAdd, Int.reduceSub, Int.reduceMul, rsU, rsC]
  exact Ok_some.2 (by rw [decide_eq_false (fun e => c (by rw [e]))])
theorem hv_eq (x y : HV) : (((x.p == y.p) && (x.r == y.r)) && ((x.site == y.site) && ((x.age == y.age) && (x.large == y.large)))) = decide (x = y) := by
 cases x; cases y
 rw [Bool.eq_iff_iff]
 simp only [Bool.and_eq_true, beq_iff_eq, decide_eq_true_eq, HV.mk.injEq, and_assoc]
theorem is_ok {J : AH O} {F G : FV} {v w : AV} (hF : F.At v) (hG : G.At w) (fF : F.few) (fG : G.few) : Ok (law40_Is [v, w] J) fun r => r.1 = .b (decide (F = G)) /\ Ext J r.2 := by
 obtain ⟨a1, b1, c1, rfl, i1, i2, i3⟩ := hF.it
 obtain ⟨a2, b2, c2, rfl, j1, j2, j3⟩ := hG.it
 have fn := fF.n
 have gn := fG.n
 obtain ⟨fN, fR, fW⟩ := F
 obtain ⟨gN, gR, gW⟩ := G
 simp only at *
 by_cases e0 : fN.length = gN.length
 ·have q0 := s_eqT (show (fN.length : Int) = gN.length by omega)
  simp (maxSteps := 2000000) -implicitDefEqProofs (disch := (first | omega | rfl | assumption | (simp only [rsD]; first | omega | assumption))) only [law40_Is, law40_Is_c, q0, Nat.reduceAdd, Nat.reduceMul, Nat.reduceLT, Int.reduceToNat, Int.reduceAdd, Int.reduceSub, Int.reduceMul, rsU, rsC]
  refine Ok.step (same02 i2 j2 fF.r fG.r) fun r g => ?_
  subst g
  by_cases e1 : fR = gR
  ·have q1 := decide_eq_true e1
   simp (maxSteps := 2000000) -implicitDefEqProofs (disch := (first | omega | rfl | assumption | (simp only [rsD]; first | omega | assumption))) only [q1, Nat.reduceAdd, Nat.reduceMul, Nat.reduceLT, Int.reduceToNat, Int.reduceAdd, Int.reduceSub, Int.reduceMul, rsU, rsC]
   refine Ok.step (same02 i3 j3 fF.w fG.w) fun r g => ?_
   subst g
   by_cases e2 : fW = gW
   ·have q2 := decide_eq_true e2
    simp (maxSteps := 2000000) -implicitDefEqProofs (disch := (first | omega | rfl | assumption | (simp only [rsD]; first | omega | assumption))) only [q2, Nat.reduceAdd, Nat.reduceMul, Nat.reduceLT, Int.reduceToNat, Int.reduceAdd, Int.reduceSub, Int.reduceMul, rsU, rsC]
    generalize hs : AH.put (AH.put _ _ _) (J.next + 1) _ = s1
    have x0 : s1.blk J.next = some (.cells true T_canon_Form [.sl a1 fN.length, .sl b1 fR.length, .sl c1 fW.length]) := by rw [<- hs]; ((try simp only [rsD] at *); simp -implicitDefEqProofs (disch := (first | omega | rfl | assumption | (simp only [rsD]; first | omega | assumption))) only [s_bs, s_bn, s_kn, bump_blk])
    have x1 : s1.blk (J.next + 1) = some (.cells true T_haymowref40_Form [.sl a2 gN.length, .sl b2 gR.length, .sl c2 gW.length]) := by rw [<- hs]; ((try simp only [rsD] at *); simp -implicitDefEqProofs (disch := (first | omega | rfl | assumption | (simp only [rsD]; first | omega | assumption))) only [s_bs, s_bn, s_kn, bump_blk])
    have E : Ext J s1 := by rw [<- hs]; exact (ext_of (by (try simp only [rsD] at *); omega) (fun b hb => by (try simp only [rsD] at *); simp -implicitDefEqProofs (disch := (first | omega | rfl | assumption | (simp only [rsD]; first | omega | assumption))) only [s_bn, s_kn, bump_blk]))
    clear hs
    refine Ok.bindS (Q := fun r => (r = .inl ([], s1) /\ ∀ k, k < gN.length -> fN[k]? = gN[k]?) ∨ (fN ≠ gN /\ r = .inr (.b false, s1))) ?_ ?_ ?_
    ·refine Ok.count gN.length (fun k s => s = ([.i .i64 (k : Int)], s1) /\ ∀ j, j < k -> fN[j]? = gN[j]?) ?_ ?_ ⟨rfl, fun j h => by omega⟩
     ·rintro k s hk ⟨rfl, ih⟩
      obtain ⟨x, hx⟩ : ∃ x, fN[k]? = some x := ⟨_, List.getElem?_eq_getElem (by omega)⟩
      obtain ⟨y, hy⟩ : ∃ y, gN[k]? = some y := ⟨_, List.getElem?_eq_getElem hk⟩
      obtain ⟨u1, o1, p1, q1', rfl, hp1, hq1, l1⟩ := i1.node hx
      obtain ⟨u2, o2, p2, q2', rfl, hp2, hq2, l2⟩ := j1.node hy
      have fx := fF.x x (List.mem_of_getElem? hx)
      have fy := fG.x y (List.mem_of_getElem? hy)
      have q := hv_eq x.h y.h
      have bf : (false == false) = true := rfl
      have bt : (true == false) = false := rfl
      have no : x ≠ y -> fN ≠ gN := fun h e => h (by rw [e, hy] at hx; cases hx; rfl)
      by_cases h1 : x.h = y.h
      ·rw [decide_eq_true h1] at q
       simp (maxSteps := 2000000) -implicitDefEqProofs (disch := (first | omega | rfl | assumption | (simp only [rsD]; first | omega | assumption))) only [law40_Is_L1, x0, x1, l1, l2, q, bf, bt, Nat.reduceAdd, Nat.reduceMul, Nat.reduceLT, Int.reduceToNat, Int.reduceAdd, Int.reduceSub, Int.reduceMul, rsU, rsC]
       refine Ok.step (same02 hp1 hp2 fx.p fy.p) fun r g => ?_
       subst g
       by_cases h2 : x.P = y.P
       ·have d2 := decide_eq_true h2
        simp (maxSteps := 2000000) -implicitDefEqProofs (disch := (first | omega | rfl | assumption | (simp only [rsD]; first | omega | assumption))) only [x0, x1, l1, l2, d2, bf, bt, Nat.reduceAdd, Nat.reduceMul, Nat.reduceLT, Int.reduceToNat, Int.reduceAdd, Int.reduceSub, Int.reduceMul, rsU, rsC]
        refine Ok.step (same05 hq1 hq2 fx.r fy.r) fun r g => ?_
        subst g
        by_cases h3 : x.R = y.R
        ·have d3 := decide_eq_true h3
         simp (maxSteps := 2000000) -implicitDefEqProofs (disch := (first | omega | rfl | assumption | (simp only [rsD]; first | omega | assumption))) only [d3, Nat.reduceAdd, Nat.reduceMul, Nat.reduceLT, Int.reduceToNat, Int.reduceAdd, Int.reduceSub, Int.reduceMul, rsU, rsC]
         refine Ok_some.2 ⟨by simp, fun j hj => ?_⟩
         by_cases ej : j = k
         ·subst ej; rw [hx, hy]; obtain ⟨xh, xP, xR⟩ := x; obtain ⟨yh, yP, yR⟩ := y; simp only at h1 h2 h3; rw [h1, h2, h3]
         ·exact ih j (by omega)
        ·have d3 := decide_eq_false h3
         simp (maxSteps := 2000000) -implicitDefEqProofs (disch := (first | omega | rfl | assumption | (simp only [rsD]; first | omega | assumption))) only [d3, Nat.reduceAdd, Nat.reduceMul, Nat.reduceLT, Int.reduceToNat, Int.reduceAdd, Int.reduceSub, Int.reduceMul, rsU, rsC]
         exact Ok_some.2 (.inr ⟨no fun e => h3 (by rw [e]), rfl⟩)
       ·have d2 := decide_eq_false h2
        simp (maxSteps := 2000000) -implicitDefEqProofs (disch := (first | omega | rfl | assumption | (simp only [rsD]; first | omega | assumption))) only [d2, bf, bt, Nat.reduceAdd, Nat.reduceMul, Nat.reduceLT, Int.reduceToNat, Int.reduceAdd, Int.reduceSub, Int.reduceMul, rsU, rsC]
        exact Ok_some.2 (.inr ⟨no fun e => h2 (by rw [e]), rfl⟩)
      ·rw [decide_eq_false h1] at q
       simp (maxSteps := 2000000) -implicitDefEqProofs (disch := (first | omega | rfl | assumption | (simp only [rsD]; first | omega | assumption))) only [law40_Is_L1, x0, x1, l1, l2, q, bf, bt, Nat.reduceAdd, Nat.reduceMul, Nat.reduceLT, Int.reduceToNat, Int.reduceAdd, Int.reduceSub, Int.reduceMul, rsU, rsC]
       exact Ok_some.2 (.inr ⟨no fun e => h1 (by rw [e]), rfl⟩)
     ·rintro s ⟨rfl, ih⟩
      simp (maxSteps := 2000000) -implicitDefEqProofs (disch := (first | omega | rfl | assumption | (simp only [rsD]; first | omega | assumption))) only [law40_Is_L1, x0, x1, Nat.reduceAdd, Nat.reduceMul, Nat.reduceLT, Int.reduceToNat, Int.reduceAdd, Int.reduceSub, Int.reduceMul, rsU, rsC]
      exact Ok_some.2 (.inl ⟨rfl, ih⟩)
    ·rintro _ (⟨e, ih⟩ | ⟨_, e⟩)
     ·cases e
      have e3 : fN = gN := List.ext_getElem? fun k => by
       by_cases c : k < gN.length
       ·exact ih k c
       ·rw [List.getElem?_eq_none (by omega), List.getElem?_eq_none (by omega)]
      exact Ok_some.2 ⟨by simp [e1, e2, e3], E⟩
     ·cases e
    ·rintro _ (⟨e, ih⟩ | ⟨no, e⟩)
     ·cases e
     ·cases e; exact ⟨by simp [no], E⟩
   ·have q2 := decide_eq_false e2
    simp (maxSteps := 2000000) -implicitDefEqProofs (disch := (first | omega | rfl | assumption | (simp only [rsD]; first | omega | assumption))) only [q2, Nat.reduceAdd, Nat.reduceMul, Nat.reduceLT, Int.reduceToNat, Int.reduceAdd, Int.reduceSub, Int.reduceMul, rsU, rsC]
    exact Ok_some.2 ⟨by simp [e2], (ext_of (by (try simp only [rsD] at *); omega) (fun b hb => by (try simp only [rsD] at *); simp -implicitDefEqProofs (disch := (first | omega | rfl | assumption | (simp only [rsD]; first | omega | assumption))) only [s_bn, s_kn, bump_blk]))⟩
  ·have q1 := decide_eq_false e1
   simp (maxSteps := 2000000) -implicitDefEqProofs (disch := (first | omega | rfl | assumption | (simp only [rsD]; first | omega | assumption))) only [q1, Nat.reduceAdd, Nat.reduceMul, Nat.reduceLT, Int.reduceToNat, Int.reduceAdd, Int.reduceSub, Int.reduceMul, rsU, rsC]
   exact Ok_some.2 ⟨by simp [e1], (ext_of (by (try simp only [rsD] at *); omega) (fun b hb => by (try simp only [rsD] at *); simp -implicitDefEqProofs (disch := (first | omega | rfl | assumption | (simp only [rsD]; first | omega | assumption))) only [s_bn, s_kn, bump_blk]))⟩
 ·have q0 := s_eqF (show ¬ (fN.length : Int) = gN.length by omega)
  simp (maxSteps := 2000000) -implicitDefEqProofs (disch := (first | omega | rfl | assumption | (simp only [rsD]; first | omega | assumption))) only [law40_Is, law40_Is_c, q0, Nat.reduceAdd, Nat.reduceMul, Nat.reduceLT, Int.reduceToNat, Int.reduceAdd, Int.reduceSub, Int.reduceMul, rsU, rsC]
  exact Ok_some.2 ⟨by rw [decide_eq_false (fun e => by cases e; exact e0 rfl)], (ext_of (by (try simp only [rsD] at *); omega) (fun b hb => by (try simp only [rsD] at *); simp -implicitDefEqProofs (disch := (first | omega | rfl | assumption | (simp only [rsD]; first | omega | assumption))) only [s_bn, s_kn, bump_blk]))⟩
end Go.Abs.Try
namespace Go.Abs.Try
open Go Go.Abs
variable {O : Type}
theorem bytes_of {z : List Int} (h : ∀ x ∈ z, IntKind.u8.min <= x /\ x <= IntKind.u8.max) : Bytes z := fun x hx => by
 obtain ⟨p, q⟩ := h x hx
 have e1 : IntKind.u8.min = 0 := rfl
 have e2 : IntKind.u8.max = 255 := rfl
 omega
theorem flat_le {l : List NV} {x : NV} (hx : x ∈ l) : l.length <= (l.flatMap (nodeW pck)).length /\ x.P.length + x.R.length <= (l.flatMap (nodeW pck)).length := by
 induction l with
 | nil => cases hx
 | cons y l ih =>
  rw [List.flatMap_cons, List.length_append, List.length_cons]
  have hl : l.length <= (l.flatMap (nodeW pck)).length := by
   clear ih hx
   induction l with
   | nil => simp
   | cons z l ih =>
    rw [List.flatMap_cons, List.length_append, List.length_cons]
    have : 1 <= (nodeW pck z).length := by unfold nodeW; simp
    omega
  have h1 : (nodeW pck y).length = 1 + y.P.length + y.R.length := by unfold nodeW; simp; omega
  refine ⟨by omega, ?_⟩
  rcases List.mem_cons.1 hx with rfl | hx
  ·omega
  ·have := (ih hx).2; omega
theorem few_words {F : FV} {n : Nat} (h : (wordsW pck F).length <= n) (hn : n <= 100000) : F.few := by
 have e : (wordsW pck F).length = 1 + ((F.nodes.flatMap (nodeW pck)).length + ((F.roots.length + 1) + (F.weak.length + 1))) := by
  unfold wordsW listW
  simp; omega
 refine ⟨?_, fun x hx => ?_, by omega, by omega⟩
 ·cases hN : F.nodes with
  | nil => simp
  | cons y l =>
   have := (flat_le (l := F.nodes) (x := y) (by rw [hN]; exact List.mem_cons_self)).1
   rw [hN] at this e
   omega
 ·have := (flat_le hx).2
  exact ⟨by omega, by omega⟩
theorem get_get {bs : List Int} (hb : Bytes bs) (hn : bs.length <= 50000) : ((getI bs).1.few) /\ ((getI bs).2 = 0 -> putW (getI bs).1 = bs /\ (getI bs).1.rng /\ (wordsW pck (getI bs).1).length <= 50000) := by
 have zf : zeroF.few := ⟨by decide, (fun x hx => by cases hx), by decide, by decide⟩
 unfold getI
 cases h1 : (openF bs).2 == 0 with
 | false =>
  simp only [cond_false]
  exact ⟨zf, fun h => by rw [h] at h1; cases h1⟩
 | true =>
  simp only [cond_true]
  have hO : openF bs = (bs.take (bs.length - 8), 0) /\ bs = sealed (bs.take (bs.length - 8)) := by
   have h2 := beq_iff_eq.1 h1
   unfold openF at h2 ⊢
   split
   ·rename_i h; rw [if_pos h] at h2; cases h2
   ·rename_i h
    rw [if_neg h] at h2
    split
    ·rename_i h3; exact ⟨rfl, h3⟩
    ·rename_i h3; rw [if_neg h3] at h2; cases h2
  rw [hO.1]
  simp only
  have hbt : Bytes (bs.take (bs.length - 8)) := fun x hx => hb x (List.mem_of_mem_take hx)
  have hlt : (bs.take (bs.length - 8)).length <= bs.length := by rw [List.length_take]; omega
  have hsl := hO.2
  generalize bs.take (bs.length - 8) = pl at *
  cases h2 : (splitF pl.length pl).2 == 0 with
  | false =>
   simp only [cond_false]
   exact ⟨zf, fun h => by rw [h] at h2; cases h2⟩
  | true =>
   simp only [cond_true]
   obtain ⟨hen, hW⟩ := splitF_all _ _ hbt (Nat.le_refl _) (beq_iff_eq.1 h2)
   have hwl := (encs_len hW).1
   rw [hen] at hwl
   generalize (splitF pl.length pl).1 = ws at *
   unfold getW
   cases hf : formW ws with
   | none => exact ⟨zf, fun h => by cases h⟩
   | some F =>
    obtain ⟨k1, k2⟩ := formW_some hf fun w hw => (hW w hw).1
    simp only
    refine ⟨few_words (n := 50000) (by rw [k1]; omega) (by omega), fun _ => ⟨?_, fun x hx w hw => ?_, by rw [k1]; omega⟩⟩
    ·unfold putW
     rw [k2, k1, hen]
     exact hsl.symm
    ·refine hW w ?_
     rw [<- k1]
     unfold wordsW
     refine List.mem_cons_of_mem _ (List.mem_append_left _ (List.mem_flatMap.2 ⟨x, hx, ?_⟩))
     unfold nodeW
     exact List.mem_cons_of_mem _ (List.mem_append_right _ hw)
theorem put_zero : putW zeroF = [0, 0, 0, 0, 0, 0, 0, 0, 0, 0, 0] := by decide +kernel
theorem get_zero : getI [0, 0, 0, 0, 0, 0, 0, 0, 0, 0, 0] = (zeroF, 0) := by decide +kernel
theorem zero_at : zeroF.At (.agg [.sl .nil 0, .sl .nil 0, .sl .nil 0]) := ⟨.nil, .nil, .nil, rfl, Row.nil NV.len, Row.nil (int1_len _), Row.nil (int1_len _)⟩
theorem zero_few : zeroF.few := ⟨by decide, (fun x hx => by cases hx), by decide, by decide⟩
theorem awake_ok (J : AH O) : Ok (law41_awake [] J) fun r => r.1 = .b true /\ Ext J r.2 := by
 have t1 : (true == true) = true := rfl
 simp (maxSteps := 2000000) -implicitDefEqProofs (disch := (first | omega | rfl | assumption | (simp only [rsD]; first | omega | assumption))) only [law41_awake, law41_awake_c, Nat.reduceAdd, Nat.reduceMul, Nat.reduceLT, Int.reduceToNat, Int.reduceAdd, Int.reduceSub, Int.reduceMul, rsU, rsC]
 refine Ok.step (put_form_ok zero_at zero_few (fun x hx => by cases hx) (by decide)) fun q ⟨⟨a, g1, i1⟩, E1⟩ => ?_
 obtain ⟨q, J1⟩ := q
 simp only at g1 E1
 rw [put_zero] at g1 i1
 subst g1
 have n1 := E1.next
 obtain ⟨r1, o1⟩ := imm_lt (J := J1.bump 1) i1
 simp (maxSteps := 2000000) -implicitDefEqProofs (disch := (first | omega | rfl | assumption | (simp only [rsD]; first | omega | assumption))) only [Nat.reduceAdd, Nat.reduceMul, Nat.reduceLT, Int.reduceToNat, Int.reduceAdd, Int.reduceSub, Int.reduceMul, rsU, rsC]
 refine Ok.step (get_form_ok r1 o1 (by unfold Bytes; decide) (by decide)) fun q ⟨⟨v, g2, hv⟩, E2⟩ => ?_
 obtain ⟨q, J2⟩ := q
 simp only at g2 E2
 rw [get_zero] at g2 hv
 subst g2
 have n2 := E2.next
 simp only [bump_next] at n2
 have hvv := hv
 obtain ⟨xa, xb, xc, rfl, _, _, _⟩ := hvv.it
 have E02 : Ext J J2 := (E1.bump 1).trans E2
 have rB : ∀ {x : Blk O}, (J2.put J1.next x).rdSl a 11 1 = some (([0, 0, 0, 0, 0, 0, 0, 0, 0, 0, 0] : List Int).map (AV.i .u8)) := fun {x} => (i1 O _).rdSl
 have hq : (u8s [0, 0, 0, 0, 0, 0, 0, 0, 0, 0, 0] == [0, 0, 0, 0, 0, 0, 0, 0, 0, 0, 0]) = true := by decide
 simp (maxSteps := 2000000) -implicitDefEqProofs (disch := (first | omega | rfl | assumption | (simp only [rsD]; first | omega | assumption))) only [rB, asBytes_ok, hq, t1, Nat.reduceAdd, Nat.reduceMul, Nat.reduceLT, Int.reduceToNat, Int.reduceAdd, Int.reduceSub, Int.reduceMul, rsU, rsC]
 have E03 : ∀ {x : Blk O}, Ext J (J2.put J1.next x) := fun {x} => E02.put (by omega) _
 refine Ok.step (is_ok hv zero_at zero_few zero_few) fun q ⟨g3, E4⟩ => ?_
 obtain ⟨q, J4⟩ := q
 simp only at g3 E4
 rw [decide_eq_true trivial] at g3
 subst g3
 simp (maxSteps := 2000000) -implicitDefEqProofs (disch := (first | omega | rfl | assumption | (simp only [rsD]; first | omega | assumption))) only [Nat.reduceAdd, Nat.reduceMul, Nat.reduceLT, Int.reduceToNat, Int.reduceAdd, Int.reduceSub, Int.reduceMul, rsU, rsC]
 exact Ok_some.2 ⟨rfl, E03.trans E4⟩
theorem imageReads_ok {a : SA} {bs : List Int} (hl : Imm 1 a bs.length (bs.map (AV.i .u8))) (hb : Bytes bs) : Ok (law41_ImageReads (O := O) [.sl a bs.length] startH) fun r => r.1 = .b true := by
 have f0 : (false == false) = true := rfl
 have f1 : (true == false) = false := rfl
 simp (maxSteps := 2000000) -implicitDefEqProofs (disch := (first | omega | rfl | assumption | (simp only [rsD]; first | omega | assumption))) only [law41_ImageReads, law41_ImageReads_c, Nat.reduceAdd, Nat.reduceMul, Nat.reduceLT, Int.reduceToNat, Int.reduceAdd, Int.reduceSub, Int.reduceMul, rsU, rsC]
 refine Ok.step (awake_ok _) fun q ⟨g1, E1⟩ => ?_
 obtain ⟨q, J1⟩ := q
 simp only at g1 E1
 subst g1
 by_cases h6 : (bs.length : Int) > 600
 ·have d : decide ((bs.length : Int) > 600) = true := decide_eq_true h6
  simp (maxSteps := 2000000) -implicitDefEqProofs (disch := (first | omega | rfl | assumption | (simp only [rsD]; first | omega | assumption))) only [d, Nat.reduceAdd, Nat.reduceMul, Nat.reduceLT, Int.reduceToNat, Int.reduceAdd, Int.reduceSub, Int.reduceMul, rsU, rsC]
  exact Ok_some.2 rfl
 have d : decide ((bs.length : Int) > 600) = false := decide_eq_false h6
 obtain ⟨few, back⟩ := get_get hb (by omega)
 obtain ⟨r1, o1⟩ := imm_lt (J := J1.bump 1) hl
 simp (maxSteps := 2000000) -implicitDefEqProofs (disch := (first | omega | rfl | assumption | (simp only [rsD]; first | omega | assumption))) only [d, Nat.reduceAdd, Nat.reduceMul, Nat.reduceLT, Int.reduceToNat, Int.reduceAdd, Int.reduceSub, Int.reduceMul, rsU, rsC]
 refine Ok.step (get_form_ok r1 o1 hb (by omega)) fun q ⟨⟨v, g2, hv⟩, E2⟩ => ?_
 obtain ⟨q, J2⟩ := q
 simp only at g2 E2
 subst g2
 have hvv := hv
 obtain ⟨xa, xb, xc, rfl, _, _, _⟩ := hvv.it
 have n2 := E2.next
 simp only [bump_next] at n2
 simp (maxSteps := 2000000) -implicitDefEqProofs (disch := (first | omega | rfl | assumption | (simp only [rsD]; first | omega | assumption))) only [Nat.reduceAdd, Nat.reduceMul, Nat.reduceLT, Int.reduceToNat, Int.reduceAdd, Int.reduceSub, Int.reduceMul, rsU, rsC]
 generalize hJ : (J2.put J1.next _) = J3
 have n3 : J3.next = J2.next := by rw [<- hJ]; rfl
 have b3 : J3.blk J1.next = some (.cells true 27 [.sl xa (getI bs).1.nodes.length, .sl xb (getI bs).1.roots.length, .sl xc (getI bs).1.weak.length]) := by rw [<- hJ]; exact s_bs
 clear hJ
 obtain ⟨r3, o3⟩ := imm_lt (J := J3.bump 1) hl
 refine Ok.step (rget_ok r3 o3 hb (by omega)) fun q ⟨⟨w, g4, hw⟩, E4⟩ => ?_
 obtain ⟨q, J4⟩ := q
 simp only at g4 E4
 subst g4
 have hww := hw
 obtain ⟨ya, yb, yc, rfl, _, _, _⟩ := hww.it
 have n4 := E4.next
 simp only [bump_next] at n4
 have b4 := (E4.blk J1.next (by simp only [bump_next]; omega)).trans b3
 have q0 : ((getI bs).2 == (getI bs).2) = true := beq_self_eq_true _
 simp (maxSteps := 2000000) -implicitDefEqProofs (disch := (first | omega | rfl | assumption | (simp only [rsD]; first | omega | assumption))) only [q0, b4, Nat.reduceAdd, Nat.reduceMul, Nat.reduceLT, Int.reduceToNat, Int.reduceAdd, Int.reduceSub, Int.reduceMul, rsU, rsC]
 generalize hJ : J4.put J2.next _ = J5
 have n5 : J5.next = J4.next := by rw [<- hJ]; rfl
 have b5 : J5.blk J1.next = some (.cells true 27 [.sl xa (getI bs).1.nodes.length, .sl xb (getI bs).1.roots.length, .sl xc (getI bs).1.weak.length]) := by rw [<- hJ]; exact (s_bn (by omega)).trans b4
 clear hJ
 refine Ok.step (is_ok hv hw few few) fun q ⟨g5, E6⟩ => ?_
 obtain ⟨q, J6⟩ := q
 simp only at g5 E6
 rw [decide_eq_true trivial] at g5
 subst g5
 have b6 := (E6.blk J1.next (by omega)).trans b5
 cases he : (getI bs).2 == 0 with
 | false =>
  simp (maxSteps := 2000000) -implicitDefEqProofs (disch := (first | omega | rfl | assumption | (simp only [rsD]; first | omega | assumption))) only [he, f0, f1, Nat.reduceAdd, Nat.reduceMul, Nat.reduceLT, Int.reduceToNat, Int.reduceAdd, Int.reduceSub, Int.reduceMul, rsU, rsC]
  exact Ok_some.2 rfl
 | true =>
  obtain ⟨p1, p2, p3⟩ := back (beq_iff_eq.1 he)
  have r6 : J6.rdSl a bs.length 1 = some (bs.map (AV.i .u8)) := (hl O J6).rdSl
  simp (maxSteps := 2000000) -implicitDefEqProofs (disch := (first | omega | rfl | assumption | (simp only [rsD]; first | omega | assumption))) only [he, f0, f1, b6, r6, asBytes_ok, Nat.reduceAdd, Nat.reduceMul, Nat.reduceLT, Int.reduceToNat, Int.reduceAdd, Int.reduceSub, Int.reduceMul, rsU, rsC]
  refine Ok.step (put_form_ok hv few p2 p3) fun q ⟨⟨a7, g7, i7⟩, E7⟩ => ?_
  obtain ⟨q, J7⟩ := q
  simp only at g7 E7
  rw [p1] at g7 i7
  subst g7
  have r7 : J7.rdSl a bs.length 1 = some (bs.map (AV.i .u8)) := (hl O J7).rdSl
  have r8 : J7.rdSl a7 bs.length 1 = some (bs.map (AV.i .u8)) := (i7 O J7).rdSl
  have hq : (u8s bs == u8s bs) = true := beq_self_eq_true _
  simp (maxSteps := 2000000) -implicitDefEqProofs (disch := (first | omega | rfl | assumption | (simp only [rsD]; first | omega | assumption))) only [r7, r8, asBytes_ok, hq, Nat.reduceAdd, Nat.reduceMul, Nat.reduceLT, Int.reduceToNat, Int.reduceAdd, Int.reduceSub, Int.reduceMul, rsU, rsC]
  exact Ok_some.2 rfl
end Go.Abs.Try
