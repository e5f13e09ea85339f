/-
  A reader over words: its walk. No conditions.
-/
import Derived.Test.YthkpjongjnjfgaaI10
import Derived.Test.YthkpjongjnjfgaaI5
import Derived.Test.YthkpjongjnjfgaaI6w
set_option linter.unusedVariables false
set_option linter.unusedSimpArgs false
set_option linter.constructorNameAsVariable false
set_option linter.unusedSimpArgs false
set_option linter.unusedVariables false
set_option maxHeartbeats 2000000
namespace Go.Abs.Try
open Go Go.Abs
variable {O : Type}
structure RdrAt (J : AH O) (rb : Nat) (s : RdS) : Prop where
 it : ∃ a, J.blk rb = some (.cells true 87 [.sl a s.left.length, .b s.bad]) /\ Ints .u64 a s.left
 rng : Words s.left
 len : s.left.length <= 100000
theorem RdrAt.of {J J' : AH O} {rb : Nat} {s : RdS} (h : RdrAt J rb s) (e : J'.blk rb = J.blk rb) : RdrAt J' rb s := by
 obtain ⟨a, h1, h2⟩ := h.it
 exact ⟨⟨a, e.trans h1, h2⟩, h.rng, h.len⟩
theorem ints_tail {k : IntKind} {a : SA} {w : Int} {l : List Int} (h : Ints k a (w :: l)) : ∃ a', a.adv 1 1 = some a' /\ Ints k a' l := by
 obtain ⟨a', g1, g2⟩ := h.imm.adv (lo := 1) (m := l.length) (by simp; omega)
 refine ⟨a', g1, Ints.mk ?_⟩
 simp only [Nat.mul_one, List.map_cons, List.drop_succ_cons, List.drop_zero] at g2
 rw [List.take_of_length_le (by simp)] at g2
 exact g2
theorem next_ok {J : AH O} {rb : Nat} {s : RdS} (h : RdrAt J rb s) : Ok (image_reader__next [.p (some (.n rb, 0))] J) fun r => r.1 = .i .u64 (nextR s).1 /\ RdrAt r.2 rb (nextR s).2 /\ Chg [rb] J r.2 /\ 0 <= (nextR s).1 /\ (nextR s).1 < 18446744073709551616 /\ (nextR s).2.left.length <= s.left.length := by
 obtain ⟨⟨a, h1, h2⟩, hr, hn⟩ := h
 obtain ⟨l, bad⟩ := s
 cases l with
 | nil =>
  simp only [List.length_nil] at h1
  simp (maxSteps := 2000000) -implicitDefEqProofs (disch := (first | omega | rfl | assumption | (simp only [rsD]; first | omega | assumption))) only [image_reader__next, image_reader__next_c, h1, Nat.reduceAdd, Nat.reduceMul, Nat.reduceLT, Int.reduceToNat, Int.reduceAdd, Int.reduceSub, Int.reduceMul, rsU, rsC]
  exact Ok_some.2 ⟨rfl, ⟨⟨a, s_bs, h2⟩, hr, hn⟩, (Chg.refl _ _).put (by simp) _, by simp [nextR], by simp [nextR], by simp [nextR]⟩
 | cons w l =>
  obtain ⟨bb, oo, r1, ld⟩ := ints_ref h2 (i := 0) (x := w) rfl
  have ld := ld O J
  rw [Nat.add_zero] at ld
  obtain ⟨a', g1, g2⟩ := ints_tail h2
  have hw := hr w List.mem_cons_self
  simp only [List.length_cons] at h1 hn
  have d0 : (((l.length + 1 : Nat) : Int) == 0) = false := by simp; omega
  have d1 : decide ((0 : Int) < ((l.length + 1 : Nat) : Int)) = true := decide_eq_true (by omega)
  have d2 : decide ((1 : Int) <= ((l.length + 1 : Nat) : Int)) = true := decide_eq_true (by omega)
  have d3 : decide (((l.length + 1 : Nat) : Int) <= ((l.length + 1 : Nat) : Int)) = true := decide_eq_true (by omega)
  simp (maxSteps := 2000000) -implicitDefEqProofs (disch := (first | omega | rfl | assumption | (simp only [rsD]; first | omega | assumption))) only [image_reader__next, image_reader__next_c, h1, d0, d1, d2, d3, r1, ld, g1, Int.toNat_natCast, Nat.add_sub_cancel, Nat.reduceAdd, Nat.reduceMul, Nat.reduceLT, Int.reduceToNat, Int.reduceAdd, Int.reduceSub, Int.reduceMul, rsU, rsC]
  exact Ok_some.2 ⟨rfl, ⟨⟨a', s_bs, g2⟩, fun x hx => hr x (List.mem_cons_of_mem _ hx), by show l.length <= _; omega⟩, (Chg.refl _ _).put (by simp) _, hw.1, hw.2, by simp [nextR]⟩
theorem number_ok {J : AH O} {rb : Nat} {s : RdS} (h : RdrAt J rb s) : Ok (image_reader__number [.p (some (.n rb, 0))] J) fun r => r.1 = .i .i64 (numberR s).1 /\ RdrAt r.2 rb (numberR s).2 /\ Chg [rb] J r.2 /\ (numberR s).2.left.length <= s.left.length := by
 simp (maxSteps := 2000000) -implicitDefEqProofs (disch := (first | omega | rfl | assumption | (simp only [rsD]; first | omega | assumption))) only [image_reader__number, image_reader__number_c, Nat.reduceAdd, Nat.reduceMul, Nat.reduceLT, Int.reduceToNat, Int.reduceAdd, Int.reduceSub, Int.reduceMul, rsU, rsC]
 refine Ok.step (next_ok h) fun q ⟨g1, g2, C, h0, h1, hlen⟩ => ?_
 obtain ⟨q, J1⟩ := q
 simp only at g1 g2 C
 subst g1
 unfold numberR
 by_cases c : (nextR s).1 > 4194304
 ·have d : decide ((nextR s).1 > 4194304) = true := decide_eq_true c
  obtain ⟨⟨a, k1, k2⟩, k3, k4⟩ := g2
  simp (maxSteps := 2000000) -implicitDefEqProofs (disch := (first | omega | rfl | assumption | (simp only [rsD]; first | omega | assumption))) only [d, k1, Nat.reduceAdd, Nat.reduceMul, Nat.reduceLT, Int.reduceToNat, Int.reduceAdd, Int.reduceSub, Int.reduceMul, rsU, rsC]
  rw [if_pos c]
  exact Ok_some.2 ⟨rfl, ⟨⟨a, s_bs, k2⟩, k3, k4⟩, C.put (by simp) _, hlen⟩
 ·have d : decide ((nextR s).1 > 4194304) = false := decide_eq_false c
  have e : IntKind.i64.wrap (nextR s).1 = (nextR s).1 := i64_id (by omega) (by omega)
  simp (maxSteps := 2000000) -implicitDefEqProofs (disch := (first | omega | rfl | assumption | (simp only [rsD]; first | omega | assumption))) only [d, e, Nat.reduceAdd, Nat.reduceMul, Nat.reduceLT, Int.reduceToNat, Int.reduceAdd, Int.reduceSub, Int.reduceMul, rsU, rsC]
  rw [if_neg c]
  exact Ok_some.2 ⟨rfl, g2, C, hlen⟩
theorem count_ok {J : AH O} {rb : Nat} {s : RdS} (h : RdrAt J rb s) : Ok (image_reader__count [.p (some (.n rb, 0))] J) fun r => r.1 = .i .i64 (countR s).1 /\ RdrAt r.2 rb (countR s).2 /\ Chg [rb] J r.2 /\ 0 <= (countR s).1 /\ (countR s).1 <= 100000 := by
 simp (maxSteps := 2000000) -implicitDefEqProofs (disch := (first | omega | rfl | assumption | (simp only [rsD]; first | omega | assumption))) only [image_reader__count, image_reader__count_c, Nat.reduceAdd, Nat.reduceMul, Nat.reduceLT, Int.reduceToNat, Int.reduceAdd, Int.reduceSub, Int.reduceMul, rsU, rsC]
 refine Ok.step (next_ok h) fun q ⟨g1, g2, C, h0, h1, hlen⟩ => ?_
 obtain ⟨q, J1⟩ := q
 simp only at g1 g2 C
 subst g1
 obtain ⟨⟨a, k1, k2⟩, k3, k4⟩ := g2
 have ew : IntKind.u64.wrap ((nextR s).2.left.length : Int) = ((nextR s).2.left.length : Int) := u64_id (by omega) (by omega)
 unfold countR
 by_cases c : (nextR s).1 > (nextR s).2.left.length
 ·have d : decide ((nextR s).1 > ((nextR s).2.left.length : Int)) = true := decide_eq_true c
  simp (maxSteps := 2000000) -implicitDefEqProofs (disch := (first | omega | rfl | assumption | (simp only [rsD]; first | omega | assumption))) only [k1, ew, d, Nat.reduceAdd, Nat.reduceMul, Nat.reduceLT, Int.reduceToNat, Int.reduceAdd, Int.reduceSub, Int.reduceMul, rsU, rsC]
  rw [if_pos c]
  exact Ok_some.2 ⟨rfl, ⟨⟨a, s_bs, k2⟩, k3, k4⟩, C.put (by simp) _, by simp, by simp⟩
 ·have d : decide ((nextR s).1 > ((nextR s).2.left.length : Int)) = false := decide_eq_false c
  have e : IntKind.i64.wrap (nextR s).1 = (nextR s).1 := i64_id (by omega) (by omega)
  simp (maxSteps := 2000000) -implicitDefEqProofs (disch := (first | omega | rfl | assumption | (simp only [rsD]; first | omega | assumption))) only [k1, ew, d, e, Nat.reduceAdd, Nat.reduceMul, Nat.reduceLT, Int.reduceToNat, Int.reduceAdd, Int.reduceSub, Int.reduceMul, rsU, rsC]
  rw [if_neg c]
  exact Ok_some.2 ⟨rfl, ⟨⟨a, k1, k2⟩, k3, k4⟩, C, h0, by omega⟩
theorem takeR_len : ∀ (k : Nat) (s : RdS), (takeR k s).1.length = k
 | 0, _ => rfl
 | k + 1, s => by unfold takeR; rw [List.length_cons, takeR_len k]
theorem growP {J J' : AH O} {K : List Nat} {el : TypeId} {a : SA} {n : Nat} {cs : List AV} {v : AV} (ho : OwnS J el 1 a n cs) (C : Chg K (J.bump 2) J') (hK : ∀ b ∈ K, b ∉ SA.bk a) :
  Ok ((J'.put J.next (.cells true el [v])).appSl (J.next + 1) el 1 a n 1 [v]) fun r => ∃ a', r.1 = .sl a' (n + 1) /\ OwnS r.2 el 1 a' (n + 1) (cs ++ [v]) /\ r.2.next = J'.next /\ (∀ b, b < J.next -> b ∉ SA.bk a -> r.2.blk b = J'.blk b) /\ ∀ b ∈ SA.bk a', J.next <= b /\ b < r.2.next := by
 have hlt := ho.lt
 have n1 := C.next
 simp only [bump_next] at n1
 have e : ∀ b ∈ SA.bk a, (J'.put J.next (.cells true el [v])).blk b = J.blk b := fun b hb => by
  have := hlt b hb
  rw [s_bn (by omega), C.blk b (by simp only [bump_next]; omega) (fun h => hK b h hb)]; rfl
 have ho1 : OwnS (J'.put J.next (.cells true el [v])) el 1 a n cs := ho.of (by simp; omega) e
 refine (app_ok (nid := J.next + 1) ho1 (fun hm => by have := hlt _ hm; omega) (by simp; omega) (show ([v] : List AV).length = 1 * 1 from rfl)).mono fun r ⟨a', g1, g2, g3, g4, g5⟩ => ⟨a', g1, g2, g3, fun b hb hm => (g4 b (by omega) hm).trans (s_bn (by omega)), fun b hb => by have := g5 b hb; have : r.2.next = J'.next := g3; omega⟩
theorem rlist1_ok {J : AH O} {rb : Nat} {s : RdS} (h : RdrAt J rb s) (hlt : rb < J.next) : Ok (image_reader__list [.p (some (.n rb, 0))] J) fun r => (∃ a, r.1 = .sl a (listR s).1.length /\ Ints .i64 a (listR s).1) /\ RdrAt r.2 rb (listR s).2 /\ Chg [rb] J r.2 /\ (listR s).1.length <= 100000 := by
 have hlen : (listR s).1.length <= 100000 := by
  obtain ⟨_, _, _, _, _, h2⟩ := count_ok h
  unfold listR
  rw [takeR_len]; omega
 refine (frz_okC (s := image_reader__list_c image_reader__count image_reader__number) (K := [rb]) (Q := fun v J1 => (∃ a, v = .sl a (listR s).1.length /\ Ints .i64 a (listR s).1) /\ RdrAt J1 rb (listR s).2) ?_).mono fun r ⟨C, J1, ⟨q1, q2⟩, q3⟩ => ⟨q1, q2.of (q3 rb hlt), C, hlen⟩
 suffices k : Ok (image_reader__list_c image_reader__count image_reader__number [.p (some (.n rb, 0))] J) fun r => ∃ a, r.1 = .sl a (listR s).1.length /\ OwnS r.2 3 1 a (listR s).1.length ((listR s).1.map (AV.i .i64)) /\ (∀ b ∈ SA.bk a, J.next <= b) /\ RdrAt r.2 rb (listR s).2 /\ Chg [rb] J r.2 by
  refine k.mono ?_
  rintro ⟨v, J1⟩ ⟨a, rfl, own, fr, hR, C⟩
  obtain ⟨a', f, m⟩ := FZ.sl (d := 6) own (fun _ _ => rfl) (FZL.flat (by simp [AV.flat])) rfl (by simp)
  exact ⟨_, _, f, fun b hb => fr b (by simpa using hb), C, ⟨a', rfl, Ints.mk m⟩, hR⟩
 simp (maxSteps := 2000000) -implicitDefEqProofs (disch := (first | omega | rfl | assumption | (simp only [rsD]; first | omega | assumption))) only [image_reader__list_c, Nat.reduceAdd, Nat.reduceMul, Nat.reduceLT, Int.reduceToNat, Int.reduceAdd, Int.reduceSub, Int.reduceMul, rsU, rsC]
 refine Ok.step (count_ok h) fun q ⟨g1, g2, C, h0, h1⟩ => ?_
 obtain ⟨q, J1⟩ := q
 simp only at g1 g2 C
 subst g1
 unfold listR
 generalize (countR s).1 = N at *
 generalize (countR s).2 = s1 at *
 have nC := C.next
 simp (maxSteps := 2000000) -implicitDefEqProofs (disch := (first | omega | rfl | assumption | (simp only [rsD]; first | omega | assumption))) only [Nat.reduceAdd, Nat.reduceMul, Nat.reduceLT, Int.reduceToNat, Int.reduceAdd, Int.reduceSub, Int.reduceMul, rsU, rsC]
 refine Ok.step (Q := fun r => ∃ a, r.1 = [.sl a (takeR N.toNat s1).1.length] /\ OwnS r.2 3 1 a (takeR N.toNat s1).1.length ((takeR N.toNat s1).1.map (AV.i .i64)) /\ (∀ b ∈ SA.bk a, J1.next <= b) /\ RdrAt r.2 rb (takeR N.toNat s1).2 /\ Chg [rb] J1 r.2) ?_ ?_
 ·refine Ok.count N.toNat (fun k st => ∃ a J' pre sk, st = ([.sl a k, .i .i64 (k : Int)], J') /\ pre.length = k /\ takeR N.toNat s1 = (pre ++ (takeR (N.toNat - k) sk).1, (takeR (N.toNat - k) sk).2) /\ OwnS J' 3 1 a k (pre.map (AV.i .i64)) /\ (∀ b ∈ SA.bk a, J1.next <= b) /\ RdrAt J' rb sk /\ Chg [rb] J1 J') ?_ ?_ ⟨.nil, J1, [], s1, rfl, rfl, rfl, OwnS.nil _ _ _, by simp [SA.bk], g2, Chg.refl _ _⟩
  ·rintro k _ hk ⟨a, J', pre, sk, rfl, hp, e, own, fr, hR, C'⟩
   have dk : decide ((k : Int) < N) = true := decide_eq_true (by omega)
   simp (maxSteps := 2000000) -implicitDefEqProofs (disch := (first | omega | rfl | assumption | (simp only [rsD]; first | omega | assumption))) only [image_reader__list_L1, dk, Nat.reduceAdd, Nat.reduceMul, Nat.reduceLT, Int.reduceToNat, Int.reduceAdd, Int.reduceSub, Int.reduceMul, rsU, rsC]
   refine Ok.step (number_ok (J := J'.bump 2) (hR.of rfl)) fun q ⟨g1, g2, C2, _⟩ => ?_
   obtain ⟨q, J2⟩ := q
   simp only at g1 g2 C2
   subst g1
   have nC' := C'.next
   simp (maxSteps := 2000000) -implicitDefEqProofs (disch := (first | omega | rfl | assumption | (simp only [rsD]; first | omega | assumption))) only [Nat.reduceAdd, Nat.reduceMul, Nat.reduceLT, Int.reduceToNat, Int.reduceAdd, Int.reduceSub, Int.reduceMul, rsU, rsC]
   refine Ok.step (growP own C2 (by simp; intro h; have := fr _ h; omega)) fun q ⟨a3, g3, g4, g5, g6, g7⟩ => ?_
   obtain ⟨q, J3⟩ := q
   simp only at g3 g4 g5 g6
   subst g3
   have n2 := C2.next
   simp only [bump_next] at n2
   simp (maxSteps := 2000000) -implicitDefEqProofs (disch := (first | omega | rfl | assumption | (simp only [rsD]; first | omega | assumption))) only [Nat.reduceAdd, Nat.reduceMul, Nat.reduceLT, Int.reduceToNat, Int.reduceAdd, Int.reduceSub, Int.reduceMul, rsU, rsC]
   have hrb : J3.blk rb = J2.blk rb := g6 rb (by omega) (fun h => by have := fr _ h; omega)
   refine Ok_some.2 ⟨a3, J3, pre ++ [(numberR sk).1], (numberR sk).2, rfl, by simp [hp], ?_, by rw [List.map_append]; exact g4, fun b hb => by have := (g7 b hb).1; omega, g2.of hrb, ?_⟩
   ·rw [e, show N.toNat - k = (N.toNat - (k + 1)) + 1 by omega]
    simp only [takeR, List.append_assoc, List.singleton_append]
   ·refine ⟨by omega, fun b hb hm => ?_⟩
    rw [g6 b (by omega) (fun h => by have := fr _ h; omega), C2.blk b (by simp only [bump_next]; omega) hm]
    exact C'.blk b hb hm
  ·rintro _ ⟨a, J', pre, sk, rfl, hp, e, own, fr, hR, C'⟩
   have dk : decide (((N.toNat : Nat) : Int) < N) = false := decide_eq_false (by omega)
   rw [Nat.sub_self] at e
   simp only [takeR, List.append_nil] at e
   simp (maxSteps := 2000000) -implicitDefEqProofs (disch := (first | omega | rfl | assumption | (simp only [rsD]; first | omega | assumption))) only [image_reader__list_L1, dk, Nat.reduceAdd, Nat.reduceMul, Nat.reduceLT, Int.reduceToNat, Int.reduceAdd, Int.reduceSub, Int.reduceMul, rsU, rsC]
   rw [e]
   exact Ok_some.2 ⟨a, by simp only [hp], by simp only [hp]; exact own, fr, hR, C'⟩
 ·rintro ⟨rv, J2⟩ ⟨a, e, own, fr, hR, C2⟩
  simp only at e own hR C2
  subst e
  simp (maxSteps := 2000000) -implicitDefEqProofs (disch := (first | omega | rfl | assumption | (simp only [rsD]; first | omega | assumption))) only [Nat.reduceAdd, Nat.reduceMul, Nat.reduceLT, Int.reduceToNat, Int.reduceAdd, Int.reduceSub, Int.reduceMul, rsU, rsC]
  exact Ok_some.2 ⟨a, rfl, own, fun b hb => by have := fr b hb; omega, hR, C.trans C2⟩
end Go.Abs.Try
set_option maxHeartbeats 4000000
namespace Go.Abs.Try
open Go Go.Abs
variable {O : Type}
theorem takeB_succ (f : RdS -> Int × RdS) (k : Nat) (s : RdS) : takeB f (k + 1) s = if s.bad = true then ([], s) else ((f s).1 :: (takeB f k (f s).2).1, (takeB f k (f s).2).2) := rfl
theorem pl_ok {J h2 : AH O} {r19 : List AV × AH O} {rb e1 e2 : Nat} {s : RdS} {hp : Int} {x0 x1 x2 x3 x4 x6 y1 y2 y3 y4 : AV} (hh : J.blk h2.next = some (.cells true e1 [.i .i64 hp, y1, y2, y3, y4])) (hx : J.blk r19.2.next = some (.cells true e2 [x0, x1, x2, x3, x4, .sl .nil 0, x6]))
  (hR : RdrAt J rb s) (n1 : rb ≠ h2.next) (n2 : rb ≠ r19.2.next) (n3 : h2.next ≠ r19.2.next) (l1 : rb < J.next) (l2 : h2.next < J.next) (l3 : r19.2.next < J.next) (hp0 : 0 <= hp /\ hp <= 4095) :
  Ok (loopF (S := List AV × AH O) (T := List AV × AH O) (image_reader__node_L1 h2 (some (.n rb, 0)) r19 image_reader__number) ([.i .i64 0], J)) fun r => r.1 = [] /\ ∃ a, r.2.blk r19.2.next = some (.cells true e2 [x0, x1, x2, x3, x4, .sl a (takeB numberR hp.toNat s).1.length, x6]) /\ OwnS r.2 3 1 a (takeB numberR hp.toNat s).1.length ((takeB numberR hp.toNat s).1.map (AV.i .i64)) /\ (∀ b ∈ SA.bk a, J.next <= b) /\ RdrAt r.2 rb (takeB numberR hp.toNat s).2 /\ Chg [rb, r19.2.next] J r.2 := by
 refine Ok.loop (fun m st => ∃ k a J' pre sk, st = ([.i .i64 ((k : Nat) : Int)], J') /\ m = hp.toNat - k /\ k <= hp.toNat /\ pre.length = k /\ J'.blk r19.2.next = some (.cells true e2 [x0, x1, x2, x3, x4, .sl a k, x6]) /\ takeB numberR hp.toNat s = (pre ++ (takeB numberR (hp.toNat - k) sk).1, (takeB numberR (hp.toNat - k) sk).2) /\ OwnS J' 3 1 a k (pre.map (AV.i .i64)) /\ (∀ b ∈ SA.bk a, J.next <= b) /\ RdrAt J' rb sk /\ Chg [rb, r19.2.next] J J') ?_ hp.toNat _ ⟨0, .nil, J, [], s, rfl, rfl, by omega, rfl, hx, rfl, OwnS.nil _ _ _, by simp [SA.bk], hR, Chg.refl _ _⟩
 rintro _ _ ⟨k, a, J', pre, sk, rfl, rfl, hk, hpl, hx', e, own, fr, hR, C⟩
 have hh' := (C.blk _ l2 (by simp; exact ⟨fun h => n1 h.symm, n3⟩)).trans hh
 have nC := C.next
 have g0 : (true == true) = true := rfl
 have g1' : (false == true) = false := rfl
 obtain ⟨ra, hb, _⟩ := hR.it
 by_cases hlt : k < hp.toNat
 case neg =>
  have dk : decide ((k : Int) < hp) = false := decide_eq_false (by omega)
  have e0 : hp.toNat - k = 0 := by omega
  rw [e0] at e
  simp only [takeB, List.append_nil] at e
  simp (maxSteps := 2000000) -implicitDefEqProofs (disch := (first | omega | rfl | assumption | (simp only [rsD]; first | omega | assumption))) only [image_reader__node_L1, hh', dk, g1', g0, Nat.reduceAdd, Nat.reduceMul, Nat.reduceLT, Int.reduceToNat, Int.reduceAdd, Int.reduceSub, Int.reduceMul, rsU, rsC]
  rw [e]
  exact Ok_some.2 ⟨rfl, a, by simp only [hpl]; exact hx', by simp only [hpl]; exact own, fr, hR, C⟩
 have dk : decide ((k : Int) < hp) = true := decide_eq_true (by omega)
 have es : hp.toNat - k = (hp.toNat - (k + 1)) + 1 := by omega
 rw [es, takeB_succ] at e
 cases hbad : sk.bad with
 | true =>
  rw [if_pos hbad] at e
  simp only [List.append_nil] at e
  rw [hbad] at hb
  simp (maxSteps := 2000000) -implicitDefEqProofs (disch := (first | omega | rfl | assumption | (simp only [rsD]; first | omega | assumption))) only [image_reader__node_L1, hh', dk, hb, g0, g1', Nat.reduceAdd, Nat.reduceMul, Nat.reduceLT, Int.reduceToNat, Int.reduceAdd, Int.reduceSub, Int.reduceMul, rsU, rsC]
  rw [e]
  exact Ok_some.2 ⟨rfl, a, by simp only [hpl]; exact hx', by simp only [hpl]; exact own, fr, hR, C⟩
 | false =>
  rw [if_neg (by rw [hbad]; decide)] at e
  rw [hbad] at hb
  simp (maxSteps := 2000000) -implicitDefEqProofs (disch := (first | omega | rfl | assumption | (simp only [rsD]; first | omega | assumption))) only [image_reader__node_L1, hh', dk, hb, g0, g1', hx', Nat.reduceAdd, Nat.reduceMul, Nat.reduceLT, Int.reduceToNat, Int.reduceAdd, Int.reduceSub, Int.reduceMul, rsU, rsC]
  refine Ok.step (number_ok (J := J'.bump 2) (hR.of rfl)) fun q ⟨g1, g2, C2, _⟩ => ?_
  obtain ⟨q, J2⟩ := q
  simp only at g1 g2 C2
  subst g1
  have n4 := C2.next
  simp only [bump_next] at n4
  have hx2 := (C2.blk r19.2.next (by simp only [bump_next]; omega) (by simp; omega)).trans hx'
  simp (maxSteps := 2000000) -implicitDefEqProofs (disch := (first | omega | rfl | assumption | (simp only [rsD]; first | omega | assumption))) only [hx2, s_chkT, Nat.reduceAdd, Nat.reduceMul, Nat.reduceLT, Int.reduceToNat, Int.reduceAdd, Int.reduceSub, Int.reduceMul, rsU, rsC]
  refine Ok.step (growP own C2 (by simp; intro h; have := fr _ h; omega)) fun q ⟨a3, g3, g4, g5, g6, g7⟩ => ?_
  obtain ⟨q, J3⟩ := q
  simp only at g3 g4 g5 g6
  subst g3
  have nin : r19.2.next ∉ SA.bk a := fun h => by have := fr _ h; omega
  have hx3 := (g6 r19.2.next (by omega) nin).trans hx2
  simp (maxSteps := 2000000) -implicitDefEqProofs (disch := (first | omega | rfl | assumption | (simp only [rsD]; first | omega | assumption))) only [hx3, Nat.reduceAdd, Nat.reduceMul, Nat.reduceLT, Int.reduceToNat, Int.reduceAdd, Int.reduceSub, Int.reduceMul, rsU, rsC]
  have hrb : J3.blk rb = J2.blk rb := g6 rb (by omega) (fun h => by have := fr _ h; omega)
  refine Ok_some.2 ⟨hp.toNat - (k + 1), by omega, k + 1, a3, _, pre ++ [(numberR sk).1], (numberR sk).2, rfl, rfl, by omega, by simp [hpl], s_bs, ?_, ?_, fun b hb => by have := (g7 b hb).1; omega, g2.of ((s_bn n2).trans hrb), ?_⟩
  ·rw [e, List.append_assoc]; rfl
  ·rw [List.map_append]
   exact g4.of (by simp) fun b hb => s_bn (by have := (g7 b hb).1; omega)
  ·refine Chg.put ⟨by omega, fun b hb hm => ?_⟩ (by simp) _
   rw [g6 b (by omega) (fun h => by have := fr _ h; omega), C2.blk b (by simp only [bump_next]; omega) (by simp at hm; simp [hm])]
   exact C.blk b hb hm
theorem rl_ok {J h2 : AH O} {r19 : List AV × AH O} {rb e1 e2 : Nat} {s : RdS} {hp : Int} {x0 x1 x2 x3 x4 x5 y1 y2 y3 y4 : AV} (hh : J.blk h2.next = some (.cells true e1 [y1, .i .i64 hp, y2, y3, y4])) (hx : J.blk r19.2.next = some (.cells true e2 [x0, x1, x2, x3, x4, x5, .sl .nil 0]))
  (hR : RdrAt J rb s) (n1 : rb ≠ h2.next) (n2 : rb ≠ r19.2.next) (n3 : h2.next ≠ r19.2.next) (l1 : rb < J.next) (l2 : h2.next < J.next) (l3 : r19.2.next < J.next) (hp0 : 0 <= hp /\ hp <= 4095) :
  Ok (loopF (S := List AV × AH O) (T := List AV × AH O) (image_reader__node_L2 h2 (some (.n rb, 0)) r19 image_reader__next) ([.i .i64 0], J)) fun r => r.1 = [] /\ ∃ a, r.2.blk r19.2.next = some (.cells true e2 [x0, x1, x2, x3, x4, x5, .sl a (takeB nextR hp.toNat s).1.length]) /\ OwnS r.2 54 1 a (takeB nextR hp.toNat s).1.length ((takeB nextR hp.toNat s).1.map (AV.i .u64)) /\ (∀ b ∈ SA.bk a, J.next <= b) /\ RdrAt r.2 rb (takeB nextR hp.toNat s).2 /\ Chg [rb, r19.2.next] J r.2 := by
 refine Ok.loop (fun m st => ∃ k a J' pre sk, st = ([.i .i64 ((k : Nat) : Int)], J') /\ m = hp.toNat - k /\ k <= hp.toNat /\ pre.length = k /\ J'.blk r19.2.next = some (.cells true e2 [x0, x1, x2, x3, x4, x5, .sl a k]) /\ takeB nextR hp.toNat s = (pre ++ (takeB nextR (hp.toNat - k) sk).1, (takeB nextR (hp.toNat - k) sk).2) /\ OwnS J' 54 1 a k (pre.map (AV.i .u64)) /\ (∀ b ∈ SA.bk a, J.next <= b) /\ RdrAt J' rb sk /\ Chg [rb, r19.2.next] J J') ?_ hp.toNat _ ⟨0, .nil, J, [], s, rfl, rfl, by omega, rfl, hx, rfl, OwnS.nil _ _ _, by simp [SA.bk], hR, Chg.refl _ _⟩
 rintro _ _ ⟨k, a, J', pre, sk, rfl, rfl, hk, hpl, hx', e, own, fr, hR, C⟩
 have hh' := (C.blk _ l2 (by simp; exact ⟨fun h => n1 h.symm, n3⟩)).trans hh
 have nC := C.next
 have g0 : (true == true) = true := rfl
 have g1' : (false == true) = false := rfl
 obtain ⟨ra, hb, _⟩ := hR.it
 by_cases hlt : k < hp.toNat
 case neg =>
  have dk : decide ((k : Int) < hp) = false := decide_eq_false (by omega)
  have e0 : hp.toNat - k = 0 := by omega
  rw [e0] at e
  simp only [takeB, List.append_nil] at e
  simp (maxSteps := 2000000) -implicitDefEqProofs (disch := (first | omega | rfl | assumption | (simp only [rsD]; first | omega | assumption))) only [image_reader__node_L2, hh', dk, g1', g0, Nat.reduceAdd, Nat.reduceMul, Nat.reduceLT, Int.reduceToNat, Int.reduceAdd, Int.reduceSub, Int.reduceMul, rsU, rsC]
  rw [e]
  exact Ok_some.2 ⟨rfl, a, by simp only [hpl]; exact hx', by simp only [hpl]; exact own, fr, hR, C⟩
 have dk : decide ((k : Int) < hp) = true := decide_eq_true (by omega)
 have es : hp.toNat - k = (hp.toNat - (k + 1)) + 1 := by omega
 rw [es, takeB_succ] at e
 cases hbad : sk.bad with
 | true =>
  rw [if_pos hbad] at e
  simp only [List.append_nil] at e
  rw [hbad] at hb
  simp (maxSteps := 2000000) -implicitDefEqProofs (disch := (first | omega | rfl | assumption | (simp only [rsD]; first | omega | assumption))) only [image_reader__node_L2, hh', dk, hb, g0, g1', Nat.reduceAdd, Nat.reduceMul, Nat.reduceLT, Int.reduceToNat, Int.reduceAdd, Int.reduceSub, Int.reduceMul, rsU, rsC]
  rw [e]
  exact Ok_some.2 ⟨rfl, a, by simp only [hpl]; exact hx', by simp only [hpl]; exact own, fr, hR, C⟩
 | false =>
  rw [if_neg (by rw [hbad]; decide)] at e
  rw [hbad] at hb
  simp (maxSteps := 2000000) -implicitDefEqProofs (disch := (first | omega | rfl | assumption | (simp only [rsD]; first | omega | assumption))) only [image_reader__node_L2, hh', dk, hb, g0, g1', hx', Nat.reduceAdd, Nat.reduceMul, Nat.reduceLT, Int.reduceToNat, Int.reduceAdd, Int.reduceSub, Int.reduceMul, rsU, rsC]
  refine Ok.step (next_ok (J := J'.bump 2) (hR.of rfl)) fun q ⟨g1, g2, C2, _, _, _⟩ => ?_
  obtain ⟨q, J2⟩ := q
  simp only at g1 g2 C2
  subst g1
  have n4 := C2.next
  simp only [bump_next] at n4
  have hx2 := (C2.blk r19.2.next (by simp only [bump_next]; omega) (by simp; omega)).trans hx'
  simp (maxSteps := 2000000) -implicitDefEqProofs (disch := (first | omega | rfl | assumption | (simp only [rsD]; first | omega | assumption))) only [hx2, s_chkT, Nat.reduceAdd, Nat.reduceMul, Nat.reduceLT, Int.reduceToNat, Int.reduceAdd, Int.reduceSub, Int.reduceMul, rsU, rsC]
  refine Ok.step (growP own C2 (by simp; intro h; have := fr _ h; omega)) fun q ⟨a3, g3, g4, g5, g6, g7⟩ => ?_
  obtain ⟨q, J3⟩ := q
  simp only at g3 g4 g5 g6
  subst g3
  have nin : r19.2.next ∉ SA.bk a := fun h => by have := fr _ h; omega
  have hx3 := (g6 r19.2.next (by omega) nin).trans hx2
  simp (maxSteps := 2000000) -implicitDefEqProofs (disch := (first | omega | rfl | assumption | (simp only [rsD]; first | omega | assumption))) only [hx3, Nat.reduceAdd, Nat.reduceMul, Nat.reduceLT, Int.reduceToNat, Int.reduceAdd, Int.reduceSub, Int.reduceMul, rsU, rsC]
  have hrb : J3.blk rb = J2.blk rb := g6 rb (by omega) (fun h => by have := fr _ h; omega)
  refine Ok_some.2 ⟨hp.toNat - (k + 1), by omega, k + 1, a3, _, pre ++ [(nextR sk).1], (nextR sk).2, rfl, rfl, by omega, by simp [hpl], s_bs, ?_, ?_, fun b hb => by have := (g7 b hb).1; omega, g2.of ((s_bn n2).trans hrb), ?_⟩
  ·rw [e, List.append_assoc]; rfl
  ·rw [List.map_append]
   exact g4.of (by simp) fun b hb => s_bn (by have := (g7 b hb).1; omega)
  ·refine Chg.put ⟨by omega, fun b hb hm => ?_⟩ (by simp) _
   rw [g6 b (by omega) (fun h => by have := fr _ h; omega), C2.blk b (by simp only [bump_next]; omega) (by simp at hm; simp [hm])]
   exact C.blk b hb hm
end Go.Abs.Try
namespace Go.Abs.Try
open Go Go.Abs
variable {O : Type}
theorem frz_aggC {s : Sm O} {xs : List AV} {J : AH O} {K : List Nat} {ts : List TV} {Q : AH O -> Prop} (hd : ∀ t ∈ ts, t.deep 6) (h : Ok (s xs J) fun r => ∃ vs L, r.1 = .agg vs /\ OwL r.2 ts vs L /\ (∀ b ∈ L, J.next <= b) /\ Chg K J r.2 /\ Q r.2) :
  Ok (frz s xs J) fun r => (∃ vs, r.1 = .agg vs /\ ImL ts vs) /\ Chg K J r.2 /\ ∃ J1, Q J1 /\ ∀ b, b < J.next -> r.2.blk b = J1.blk b := by
 refine (frz_okC (K := K) (Q := fun v J1 => (∃ vs, v = .agg vs /\ ImL ts vs) /\ Q J1) (h.mono ?_)).mono fun r ⟨C, J1, ⟨h1, h2⟩, h3⟩ => ⟨h1, C, J1, h2, h3⟩
 rintro ⟨v, J'⟩ ⟨vs, L, rfl, h2, h3, h4, h5⟩
 obtain ⟨vs', g1, g2⟩ := h2.fz (d := 6) hd
 exact ⟨.agg vs', L, FZ.agg g1, h3, h4, ⟨vs', rfl, g2⟩, h5⟩
theorem nodeR_eq (s : RdS) : ∃ (h : HV) (e : Int), unpV (nextR s).1 = .tup [.agg h.cs, .i .i64 e] /\ hdP h = true /\
  ∀ s' : RdS, s' = (bif e == 0 then (nextR s).2 else ⟨(nextR s).2.left, true⟩) -> nodeR unp s = (⟨h, (takeB numberR h.p.toNat s').1, (takeB nextR h.r.toNat (takeB numberR h.p.toNat s').2).1⟩, (takeB nextR h.r.toNat (takeB numberR h.p.toNat s').2).2) := by
 unfold nodeR unpV
 cases hu : unp (nextR s).1 with
 | none => exact ⟨zeroH, 5, rfl, rfl, fun s' e => by subst e; rfl⟩
 | some h => exact ⟨h, 0, rfl, unp_P hu, fun s' e => by subst e; rfl⟩
def rowU (x : NV) : List TV := x.h.cs.map TV.lf ++ [ints .i64 x.P, .sl 54 1 x.R.length (x.R.flatMap (int1 .u64))]
theorem rowU_un {x : NV} {us : List AV} (h : ImL (rowU x) us) : ∃ a b, us = x.cells a b /\ Ints .i64 a x.P /\ Ints .u64 b x.R := by
 unfold rowU HV.cs at h
 cases h with
 | cons h0 h => cases h with
 | cons h1 h => cases h with
 | cons h2 h => cases h with
 | cons h3 h => cases h with
 | cons h4 h => cases h with
 | cons h5 h => cases h with
 | cons h6 h => cases h with
 | nil =>
  obtain ⟨a, rfl, ia⟩ := ints_un h5
  obtain ⟨b, rfl, ib⟩ := Row.of (int1_len .u64) h6 rfl
  rw [h0.leaf, h1.leaf, h2.leaf, h3.leaf, h4.leaf]
  exact ⟨a, b, rfl, ia, ib⟩
theorem rowU_deep (x : NV) : ∀ t ∈ rowU x, t.deep 6 := by
 intro t ht
 simp only [rowU, HV.cs, List.map_cons, List.map_nil, List.cons_append, List.nil_append, List.mem_cons, List.not_mem_nil, or_false] at ht
 rcases ht with rfl | rfl | rfl | rfl | rfl | rfl | rfl
 ·exact lf_deep _ _
 ·exact lf_deep _ _
 ·exact lf_deep _ _
 ·exact lf_deep _ _
 ·exact lf_deep _ _
 ·exact ints_deep _ _ _
 ·exact ints_deep .u64 x.R 5
theorem rowU_ow {J : AH O} {x : NV} {a b : SA} (h1 : OwnS J 3 1 a x.P.length (x.P.map (AV.i .i64))) (h2 : OwnS J 54 1 b x.R.length (x.R.map (AV.i .u64))) (hd : ∀ c ∈ SA.bk a, c ∉ SA.bk b) : OwL J (rowU x) (x.cells a b) (SA.bk a ++ SA.bk b) := by
 have o1 := Ow.leaves h1 (flat_ints x.P)
 have o2 := Ow.leaves h2 (flat_ints x.R)
 rw [<- int1_flat] at o1 o2
 have q2 : OwL J [.sl 54 1 x.R.length (x.R.flatMap (int1 .u64))] [.sl b x.R.length] (SA.bk b ++ []) := .cons o2 .nil (by simp)
 rw [List.append_nil] at q2
 have q1 : OwL J [ints .i64 x.P, .sl 54 1 x.R.length (x.R.flatMap (int1 .u64))] [.sl a x.P.length, .sl b x.R.length] (SA.bk a ++ SA.bk b) := .cons o1 q2 hd
 have q0 : OwL J (x.h.cs.map TV.lf) x.h.cs [] := OwL.im (ImL.lfs (by simp [HV.cs, AV.flat]))
 have := q0.app q1 (by simp)
 rw [List.nil_append] at this
 exact this
theorem node_ok {J : AH O} {rb : Nat} {s : RdS} (h : RdrAt J rb s) (hlt : rb < J.next) : Ok (image_reader__node [.p (some (.n rb, 0))] J) fun r => (∃ c d, r.1 = .agg ((nodeR unp s).1.cells c d) /\ Ints .i64 c (nodeR unp s).1.P /\ Ints .u64 d (nodeR unp s).1.R) /\ RdrAt r.2 rb (nodeR unp s).2 /\ Chg [rb] J r.2 := by
 refine (frz_aggC (s := image_reader__node_c image_reader__next header_Unpack image_reader__number) (K := [rb]) (ts := rowU (nodeR unp s).1) (Q := fun J1 => RdrAt J1 rb (nodeR unp s).2) (rowU_deep _) ?_).mono fun r ⟨⟨vs, e, hi⟩, C, J1, q2, q3⟩ => by
  obtain ⟨a, b, rfl, h1, h2⟩ := rowU_un hi
  exact ⟨⟨a, b, e, h1, h2⟩, q2.of (q3 rb hlt), C⟩
 simp (maxSteps := 2000000) -implicitDefEqProofs (disch := (first | omega | rfl | assumption | (simp only [rsD]; first | omega | assumption))) only [image_reader__node_c, Nat.reduceAdd, Nat.reduceMul, Nat.reduceLT, Int.reduceToNat, Int.reduceAdd, Int.reduceSub, Int.reduceMul, rsU, rsC]
 generalize hJ : (J.bump 1).put J.next _ = J1
 obtain ⟨E1, n1, b1⟩ := box1 hJ
 clear hJ
 refine Ok.step (next_ok (J := J1.bump 1) (h.of (E1.blk _ hlt))) fun q ⟨g1, g2, C2, w0, w1, _⟩ => ?_
 obtain ⟨q, J2⟩ := q
 simp only at g1 g2 C2
 subst g1
 have n2 := C2.next
 simp only [bump_next] at n2
 simp (maxSteps := 2000000) -implicitDefEqProofs (disch := (first | omega | rfl | assumption | (simp only [rsD]; first | omega | assumption))) only [Nat.reduceAdd, Nat.reduceMul, Nat.reduceLT, Int.reduceToNat, Int.reduceAdd, Int.reduceSub, Int.reduceMul, rsU, rsC]
 refine Ok.step (hunpackV_ok J2 w0 w1) fun q ⟨g3, E3⟩ => ?_
 obtain ⟨q, J3⟩ := q
 simp only at g3 E3
 obtain ⟨hv, e, k1, k2, k3⟩ := nodeR_eq s
 rw [k1] at g3
 subst g3
 have n3 := E3.next
 have g4 := g2.of (E3.blk rb (by omega))
 obtain ⟨ra, rb3, rI⟩ := g4.it
 have kr := hdP_rng k2
 unfold HV.cs
 simp (maxSteps := 2000000) -implicitDefEqProofs (disch := (first | omega | rfl | assumption | (simp only [rsD]; first | omega | assumption))) only [Nat.reduceAdd, Nat.reduceMul, Nat.reduceLT, Int.reduceToNat, Int.reduceAdd, Int.reduceSub, Int.reduceMul, rsU, rsC]
 have C1 : Chg [rb] J (J1.bump 1) := (E1.chg : Chg [rb] J J1).bump 1
 have C3 : Chg [rb] J J3 := (C1.trans C2).trans E3.chg
 have b3 := (E3.blk J.next (by omega)).trans ((C2.blk J.next (by simp only [bump_next]; omega) (by simp; omega)).trans b1)
 refine Ok.step (Q := fun r => r.1 = [] /\ r.2.blk (J.next + 1) = some (.cells true 53 [.i .i64 hv.p, .i .i64 hv.r, .i .i64 hv.site, .i .i64 hv.age, .b hv.large]) /\ RdrAt r.2 rb (bif e == 0 then (nextR s).2 else ⟨(nextR s).2.left, true⟩) /\ Chg [rb] J r.2 /\ r.2.next = J3.next /\ r.2.blk J.next = some (.cells true 89 [.i .i64 0, .i .i64 0, .i .i64 0, .i .i64 0, .b false, .sl .nil 0, .sl .nil 0])) ?_ ?_
 ·have Ch : ∀ {x : Blk O}, Chg [rb] J (J3.put (J.next + 1) x) := fun {x} => C3.put (.inr (by omega)) _
  cases he : e == 0 with
  | true =>
   simp (maxSteps := 2000000) -implicitDefEqProofs (disch := (first | omega | rfl | assumption | (simp only [rsD]; first | omega | assumption))) only [Nat.reduceAdd, Nat.reduceMul, Nat.reduceLT, Int.reduceToNat, Int.reduceAdd, Int.reduceSub, Int.reduceMul, rsU, rsC]
   exact Ok_some.2 ⟨rfl, s_bs, g4.of (s_bn (by omega)), Ch, rfl, (s_bn (by omega)).trans b3⟩
  | false =>
   simp (maxSteps := 2000000) -implicitDefEqProofs (disch := (first | omega | rfl | assumption | (simp only [rsD]; first | omega | assumption))) only [rb3, Nat.reduceAdd, Nat.reduceMul, Nat.reduceLT, Int.reduceToNat, Int.reduceAdd, Int.reduceSub, Int.reduceMul, rsU, rsC]
   exact Ok_some.2 ⟨rfl, (s_bn (by omega)).trans s_bs, ⟨⟨ra, s_bs, rI⟩, g4.rng, g4.len⟩, Ch.put (by simp) _, rfl, (s_bn (by omega)).trans ((s_bn (by omega)).trans b3)⟩
 rintro ⟨rv, J4⟩ ⟨e4, hb4, hR4, C4, n4, b4⟩
 simp only at e4 hb4 hR4 C4 n4 b4
 subst e4
 have k3 := k3 _ rfl
 generalize (bif e == 0 then (nextR s).2 else ⟨(nextR s).2.left, true⟩) = s4 at *
 simp (maxSteps := 2000000) -implicitDefEqProofs (disch := (first | omega | rfl | assumption | (simp only [rsD]; first | omega | assumption))) only [hb4, Nat.reduceAdd, Nat.reduceMul, Nat.reduceLT, Int.reduceToNat, Int.reduceAdd, Int.reduceSub, Int.reduceMul, rsU, rsC]
 generalize hJ : (J4.bump 1).put J4.next _ = J5
 obtain ⟨E5, n5, x5⟩ := box1 hJ
 clear hJ
 have hb5 := (E5.blk (J.next + 1) (by omega)).trans hb4
 rw [<- n1] at hb5
 have b5 := (E5.blk J.next (by omega)).trans b4
 have hR5 := hR4.of (E5.blk rb (by omega))
 have C5 := C4.trans E5.chg
 refine Ok.step (pl_ok (h2 := J1) (r19 := ([], J4)) hb5 x5 hR5 (by omega) (by simp only; omega) (by simp only; omega) (by omega) (by omega) (by simp only; omega) kr.1) fun q ⟨g5, a, x6, own6, f6, hR6, C6⟩ => ?_
 obtain ⟨q, J6⟩ := q
 simp only at g5 x6 own6 hR6 C6
 subst g5
 generalize (takeB numberR hv.p.toNat s4).1 = P at *
 generalize (takeB numberR hv.p.toNat s4).2 = s6 at *
 have n6 := C6.next
 have hb6 := (C6.blk J1.next (by omega) (by simp; omega)).trans hb5
 have b6 := (C6.blk J.next (by omega) (by simp; omega)).trans b5
 simp (maxSteps := 2000000) -implicitDefEqProofs (disch := (first | omega | rfl | assumption | (simp only [rsD]; first | omega | assumption))) only [Nat.reduceAdd, Nat.reduceMul, Nat.reduceLT, Int.reduceToNat, Int.reduceAdd, Int.reduceSub, Int.reduceMul, rsU, rsC]
 refine Ok.step (rl_ok (h2 := J1) (r19 := ([], J4)) hb6 x6 hR6 (by omega) (by simp only; omega) (by simp only; omega) (by omega) (by omega) (by simp only; omega) kr.2.1) fun q ⟨g5, b, x7, own7, f7, hR7, C7⟩ => ?_
 obtain ⟨q, J7⟩ := q
 simp only at g5 x7 own7 hR7 C7
 subst g5
 generalize (takeB nextR hv.r.toNat s6).1 = R at *
 generalize (takeB nextR hv.r.toNat s6).2 = s7 at *
 have n7 := C7.next
 have b7 := (C7.blk J.next (by omega) (by simp; omega)).trans b6
 have own6' : OwnS J7 3 1 a P.length (P.map (AV.i .i64)) := own6.of n7 fun q hq => C7.blk q (own6.lt q hq) (by
  have := f6 q hq; simp; omega)
 simp (maxSteps := 2000000) -implicitDefEqProofs (disch := (first | omega | rfl | assumption | (simp only [rsD]; first | omega | assumption))) only [x7, b7, Nat.reduceAdd, Nat.reduceMul, Nat.reduceLT, Int.reduceToNat, Int.reduceAdd, Int.reduceSub, Int.reduceMul, rsU, rsC]
 have F : ∀ q, q ≠ J.next -> ∀ x : Blk O, (J7.put J.next x).blk q = J7.blk q := fun q hq x => s_bn hq
 have C47 : Chg [rb] J J7 := (C5.trans' C6 (by simp; omega)).trans' C7 (by simp; omega)
 rw [k3]
 refine Ok_some.2 ⟨_, _, rfl, rowU_ow (x := ⟨hv, P, R⟩) (own6'.of (by simp) fun q hq => F q (by have := f6 q hq; omega) _) (own7.of (by simp) fun q hq => F q (by have := f7 q hq; omega) _) (fun c h1 h2 => by have := own6.lt c h1; have := f7 c h2; omega), fun c hc => ?_, C47.put (.inr (Nat.le_refl _)) _, hR7.of (F rb (by omega) _)⟩
 rcases List.mem_append.1 hc with h | h
 ·have := f6 c h; omega
 ·have := f7 c h; omega
end Go.Abs.Try
namespace Go.Abs.Try
open Go Go.Abs
variable {O : Type}
theorem growB {α : Type} {J J' : AH O} {K : List Nat} {el k : Nat} {row : α -> List TV} {a : SA} {l : List α} {x : α} {new : List AV} (ho : Bld J el k row a l) (C : Chg K (J.bump 2) J') (hK : ∀ b ∈ K, b ∉ SA.bk a) (hm : ImL (row x) new) :
  Ok ((J'.put J.next (.cells true el new)).appSl (J.next + 1) el k a l.length 1 new) fun r => ∃ a', r.1 = .sl a' (l.length + 1) /\ Bld r.2 el k row a' (l ++ [x]) /\ r.2.next = J'.next /\ (∀ b, b < J.next -> b ∉ SA.bk a -> r.2.blk b = J'.blk b) /\ ∀ b ∈ SA.bk a', J.next <= b /\ b < r.2.next := by
 have hlt := ho.lt
 have n1 := C.next
 simp only [bump_next] at n1
 have e : ∀ b ∈ SA.bk a, (J'.put J.next (.cells true el new)).blk b = J.blk b := fun b hb => by
  have := hlt b hb
  rw [s_bn (by omega), C.blk b (by simp only [bump_next]; omega) (fun h => hK b h hb)]; rfl
 have ho1 : Bld (J'.put J.next (.cells true el new)) el k row a l := ho.of (by simp; omega) e
 refine (ho1.app1 (nid := J.next + 1) (fun hm => by have := hlt _ hm; omega) (by simp; omega) hm).mono fun r ⟨a', g1, g2, g3, g4, g5⟩ => ⟨a', g1, g2, g3, fun b hb hm => (g4 b (by omega) hm).trans (s_bn (by omega)), fun b hb => by have := g5 b hb; have : r.2.next = J'.next := g3; omega⟩
theorem takeB_len (f : RdS -> Int × RdS) : ∀ (k : Nat) (s : RdS), (takeB f k s).1.length <= k
 | 0, _ => Nat.le_refl _
 | k + 1, s => by
  rw [takeB_succ]
  split
  ·simp
  ·simp only [List.length_cons]
   have := takeB_len f k (f s).2
   omega
theorem nodeR_few (s : RdS) : (nodeR unp s).1.few := by
 obtain ⟨h, e, _, k2, k3⟩ := nodeR_eq s
 rw [k3 _ rfl]
 obtain ⟨q1, q2, _⟩ := hdP_rng k2
 refine ⟨?_, ?_⟩
 ·have := takeB_len numberR h.p.toNat (bif e == 0 then (nextR s).2 else ⟨(nextR s).2.left, true⟩)
  simp only; omega
 ·have := takeB_len nextR h.r.toNat (takeB numberR h.p.toNat (bif e == 0 then (nextR s).2 else ⟨(nextR s).2.left, true⟩)).2
  simp only; omega
theorem nodesB_succ (k : Nat) (s : RdS) : nodesB unp (k + 1) s = if s.bad = true then ([], s) else ((nodeR unp s).1 :: (nodesB unp k (nodeR unp s).2).1, (nodesB unp k (nodeR unp s).2).2) := rfl
theorem nodesB_few : ∀ (k : Nat) (s : RdS), (nodesB unp k s).1.length <= k /\ ∀ x ∈ (nodesB unp k s).1, x.few
 | 0, s => ⟨Nat.le_refl _, fun x hx => by cases hx⟩
 | k + 1, s => by
  rw [nodesB_succ]
  split
  ·exact ⟨by simp, fun x hx => by cases hx⟩
  ·obtain ⟨h1, h2⟩ := nodesB_few k (nodeR unp s).2
   refine ⟨by simp only [List.length_cons]; omega, fun x hx => ?_⟩
   rcases List.mem_cons.1 hx with rfl | hx
   ·exact nodeR_few s
   ·exact h2 x hx
theorem gnodes_ok {J h26 : AH O} {r14 : AV × AH O} {s : RdS} {N : Int} {x1 x2 : AV} (hx : J.blk h26.next = some (.cells true 27 [.sl .nil 0, x1, x2])) (hR : RdrAt J r14.2.next s) (n1 : r14.2.next ≠ h26.next) (l1 : r14.2.next < J.next) (l2 : h26.next < J.next) (hN : 0 <= N /\ N <= 100000) :
  Ok (loopF (S := List AV × AH O) (T := List AV × AH O) (image_Get_L1 N r14 h26 image_reader__node) ([.i .i64 0], J)) fun r => r.1 = [] /\ ∃ a, r.2.blk h26.next = some (.cells true 27 [.sl a (nodesB unp N.toNat s).1.length, x1, x2]) /\ Bld r.2 89 7 NV.row a (nodesB unp N.toNat s).1 /\ (∀ b ∈ SA.bk a, J.next <= b) /\ RdrAt r.2 r14.2.next (nodesB unp N.toNat s).2 /\ Chg [r14.2.next, h26.next] J r.2 := by
 refine Ok.loop (fun m st => ∃ k a J' pre sk, st = ([.i .i64 ((k : Nat) : Int)], J') /\ m = N.toNat - k /\ k <= N.toNat /\ pre.length = k /\ J'.blk h26.next = some (.cells true 27 [.sl a k, x1, x2]) /\ nodesB unp N.toNat s = (pre ++ (nodesB unp (N.toNat - k) sk).1, (nodesB unp (N.toNat - k) sk).2) /\ Bld J' 89 7 NV.row a pre /\ (∀ b ∈ SA.bk a, J.next <= b) /\ RdrAt J' r14.2.next sk /\ Chg [r14.2.next, h26.next] J J') ?_ N.toNat _ ⟨0, .nil, J, [], s, rfl, rfl, by omega, rfl, hx, rfl, Bld.nil _ _ NV.len, by simp [SA.bk], hR, Chg.refl _ _⟩
 rintro _ _ ⟨k, a, J', pre, sk, rfl, rfl, hk, hpl, hx', e, own, fr, hR, C⟩
 have nC := C.next
 have g0 : (true == true) = true := rfl
 have g1' : (false == true) = false := rfl
 obtain ⟨ra, hb, _⟩ := hR.it
 by_cases hlt : k < N.toNat
 case neg =>
  have dk : decide ((k : Int) < N) = false := decide_eq_false (by omega)
  have e0 : N.toNat - k = 0 := by omega
  rw [e0] at e
  simp only [nodesB, List.append_nil] at e
  simp (maxSteps := 2000000) -implicitDefEqProofs (disch := (first | omega | rfl | assumption | (simp only [rsD]; first | omega | assumption))) only [image_Get_L1, dk, g1', g0, Nat.reduceAdd, Nat.reduceMul, Nat.reduceLT, Int.reduceToNat, Int.reduceAdd, Int.reduceSub, Int.reduceMul, rsU, rsC]
  rw [e]
  exact Ok_some.2 ⟨rfl, a, by simp only [hpl]; exact hx', own, fr, hR, C⟩
 have dk : decide ((k : Int) < N) = true := decide_eq_true (by omega)
 have es : N.toNat - k = (N.toNat - (k + 1)) + 1 := by omega
 rw [es, nodesB_succ] at e
 cases hbad : sk.bad with
 | true =>
  rw [if_pos hbad] at e
  simp only [List.append_nil] at e
  rw [hbad] at hb
  simp (maxSteps := 2000000) -implicitDefEqProofs (disch := (first | omega | rfl | assumption | (simp only [rsD]; first | omega | assumption))) only [image_Get_L1, dk, hb, g0, g1', Nat.reduceAdd, Nat.reduceMul, Nat.reduceLT, Int.reduceToNat, Int.reduceAdd, Int.reduceSub, Int.reduceMul, rsU, rsC]
  rw [e]
  exact Ok_some.2 ⟨rfl, a, by simp only [hpl]; exact hx', own, fr, hR, C⟩
 | false =>
  rw [if_neg (by rw [hbad]; decide)] at e
  rw [hbad] at hb
  simp (maxSteps := 2000000) -implicitDefEqProofs (disch := (first | omega | rfl | assumption | (simp only [rsD]; first | omega | assumption))) only [image_Get_L1, dk, hb, g0, g1', hx', Nat.reduceAdd, Nat.reduceMul, Nat.reduceLT, Int.reduceToNat, Int.reduceAdd, Int.reduceSub, Int.reduceMul, rsU, rsC]
  refine Ok.step (node_ok (J := J'.bump 2) (hR.of rfl) (by simp; omega)) fun q ⟨⟨c, d, g1, i1, i2⟩, g2, C2⟩ => ?_
  obtain ⟨q, J2⟩ := q
  simp only at g1 g2 C2
  subst g1
  have n4 := C2.next
  simp only [bump_next] at n4
  have hx2 := (C2.blk h26.next (by simp only [bump_next]; omega) (by simp; omega)).trans hx'
  unfold NV.cells
  simp (maxSteps := 2000000) -implicitDefEqProofs (disch := (first | omega | rfl | assumption | (simp only [rsD]; first | omega | assumption))) only [hx2, s_chkT, Nat.reduceAdd, Nat.reduceMul, Nat.reduceLT, Int.reduceToNat, Int.reduceAdd, Int.reduceSub, Int.reduceMul, rsU, rsC]
  subst hpl
  have im := NV.mk_ i1 i2
  unfold NV.cells at im
  refine Ok.step (growB own C2 (by simp; intro h; have := fr _ h; omega) im) fun q ⟨a3, g3, g4, g5, g6, g7⟩ => ?_
  obtain ⟨q, J3⟩ := q
  simp only at g3 g4 g5 g6
  subst g3
  have nin : h26.next ∉ SA.bk a := fun h => by have := fr _ h; omega
  have hx3 := (g6 h26.next (by omega) nin).trans hx2
  simp (maxSteps := 2000000) -implicitDefEqProofs (disch := (first | omega | rfl | assumption | (simp only [rsD]; first | omega | assumption))) only [hx3, Nat.reduceAdd, Nat.reduceMul, Nat.reduceLT, Int.reduceToNat, Int.reduceAdd, Int.reduceSub, Int.reduceMul, rsU, rsC]
  have hrb : J3.blk r14.2.next = J2.blk r14.2.next := g6 _ (by omega) (fun h => by have := fr _ h; omega)
  refine Ok_some.2 ⟨N.toNat - (pre.length + 1), by omega, pre.length + 1, a3, _, pre ++ [(nodeR unp sk).1], (nodeR unp sk).2, rfl, rfl, by omega, by simp, s_bs, ?_, ?_, fun b hb => by have := (g7 b hb).1; omega, g2.of ((s_bn n1).trans hrb), ?_⟩
  ·rw [e, List.append_assoc]; rfl
  ·exact g4.of (by simp) fun b hb => s_bn (by have := (g7 b hb).1; omega)
  ·refine Chg.put ⟨by omega, fun b hb hm => ?_⟩ (by simp) _
   rw [g6 b (by omega) (fun h => by have := fr _ h; omega), C2.blk b (by simp only [bump_next]; omega) (by simp at hm; simp [hm])]
   exact C.blk b hb hm
def zeroF : FV := ⟨[], [], []⟩
def getI (bs : List Int) : FV × Int := bif (openF bs).2 == 0 then (bif (splitF (openF bs).1.length (openF bs).1).2 == 0 then getW (splitF (openF bs).1.length (openF bs).1).1 else (zeroF, (splitF (openF bs).1.length (openF bs).1).2)) else (zeroF, (openF bs).2)
theorem read_eq {l : List Int} (hw : Words l) : getW l = if (readF unp l).2.bad = false /\ (readF unp l).2.left = [] /\ rightP (readF unp l).1 = true then ((readF unp l).1, 0) else (zeroF, 5) := by
 have h0 : ∀ w ∈ l, 0 <= w := fun w hw' => (hw w hw').1
 have := readF_ok unp_zero ⟨pck, fun w v _ h => unp_pck h⟩ l h0
 unfold getW formW
 by_cases c : (readF unp l).2.bad = false /\ (readF unp l).2.left = [] /\ rightP (readF unp l).1 = true
 ·rw [if_pos c] at this
  rw [this, if_pos c]
 ·rw [if_neg c] at this
  rw [this, if_neg c]; rfl
theorem get_form_ok {J : AH O} {a : SA} {n : Nat} {bs : List Int} (hr : Rd J 1 a n (bs.map (AV.i .u8))) (ho : Old J a) (hb : Bytes bs) (hn : n <= 100000) :
  Ok (image_Get [.sl a n] J) fun r => (∃ v, r.1 = .tup [v, .i .i64 (getI bs).2] /\ (getI bs).1.At v) /\ Ext J r.2 := by
 suffices h : Ok (image_Get_c crc_Open varint_Split image_reader__count image_reader__node image_reader__list canon_Right [.sl a n] J) fun r => ∃ vs, r.1 = .tup (.agg vs :: [.i .i64 (getI bs).2]) /\ New J r.2 ((getI bs).1.rowE 89) vs from
  (frz_aggs (s := image_Get_c crc_Open varint_Split image_reader__count image_reader__node image_reader__list canon_Right) ((getI bs).1.deepE (d := 3)) rfl h).mono fun r ⟨⟨vs, e, hi⟩, E⟩ => ⟨⟨.agg vs, e, FV.rowE_at hi⟩, E⟩
 have hl : bs.length = n := by have := hr.len; simpa using this
 have nilRow : ∀ {J' : AH O}, Ext J J' -> New J J' (zeroF.rowE 89) [.sl .nil 0, .sl .nil 0, .sl .nil 0] := fun E =>
  New.im (.cons ((Row.nil NV.len).im _) (.cons (ints_mk (Row.nil (int1_len _))) (.cons (ints_mk (Row.nil (int1_len _))) .nil))) E
 simp (maxSteps := 2000000) -implicitDefEqProofs (disch := (first | omega | rfl | assumption | (simp only [rsD]; first | omega | assumption))) only [image_Get_c, Nat.reduceAdd, Nat.reduceMul, Nat.reduceLT, Int.reduceToNat, Int.reduceAdd, Int.reduceSub, Int.reduceMul, rsU, rsC]
 generalize hJ : (J.bump 1).put J.next _ = J1
 obtain ⟨E1, n1, b1⟩ := box1 hJ
 clear hJ
 refine Ok.step (open_ok (hr.lt ho E1) (fun b hb => by have := ho b hb; omega) hb (by omega)) fun q ⟨⟨a2, g1, i2⟩, E2⟩ => ?_
 obtain ⟨q, J2⟩ := q
 simp only at g1 E2
 subst g1
 have n2 := E2.next
 have b2 := (E2.blk _ (by omega)).trans b1
 have E02 := E1.trans E2
 cases he : (openF bs).2 == 0 with
 | false =>
  have eG : getI bs = (zeroF, (openF bs).2) := by unfold getI; rw [he]; rfl
  rw [eG]
  simp (maxSteps := 2000000) -implicitDefEqProofs (disch := (first | omega | rfl | assumption | (simp only [rsD]; first | omega | assumption))) only [he, b2, Nat.reduceAdd, Nat.reduceMul, Nat.reduceLT, Int.reduceToNat, Int.reduceAdd, Int.reduceSub, Int.reduceMul, rsU, rsC]
  exact Ok_some.2 ⟨_, rfl, nilRow (E02.put (Nat.le_refl _) _)⟩
 | true =>
 have hlen : (openF bs).1.length <= n := by
  unfold openF
  split
  ·simp
  ·split
   ·simp only [List.length_take]; omega
   ·simp
 have hbo : Bytes (openF bs).1 := by
  unfold openF
  split
  ·intro x hx; cases hx
  ·split
   ·exact fun x hx => hb x (List.mem_of_mem_take hx)
   ·intro x hx; cases hx
 simp (maxSteps := 2000000) -implicitDefEqProofs (disch := (first | omega | rfl | assumption | (simp only [rsD]; first | omega | assumption))) only [he, Nat.reduceAdd, Nat.reduceMul, Nat.reduceLT, Int.reduceToNat, Int.reduceAdd, Int.reduceSub, Int.reduceMul, rsU, rsC]
 obtain ⟨r2, o2⟩ := imm_lt (J := J2) i2
 refine Ok.step (split_ok r2 o2 hbo (by omega)) fun q ⟨⟨a3, g1, i3⟩, E3⟩ => ?_
 obtain ⟨q, J3⟩ := q
 simp only at g1 E3
 subst g1
 have n3 := E3.next
 have b3 := (E3.blk _ (by omega)).trans b2
 have E03 := E02.trans E3
 cases he2 : (splitF (openF bs).1.length (openF bs).1).2 == 0 with
 | false =>
  have eG : getI bs = (zeroF, (splitF (openF bs).1.length (openF bs).1).2) := by unfold getI; rw [he, he2]; rfl
  rw [eG]
  simp (maxSteps := 2000000) -implicitDefEqProofs (disch := (first | omega | rfl | assumption | (simp only [rsD]; first | omega | assumption))) only [he2, b3, Nat.reduceAdd, Nat.reduceMul, Nat.reduceLT, Int.reduceToNat, Int.reduceAdd, Int.reduceSub, Int.reduceMul, rsU, rsC]
  exact Ok_some.2 ⟨_, rfl, nilRow (E03.put (Nat.le_refl _) _)⟩
 | true =>
 have eG : getI bs = getW (splitF (openF bs).1.length (openF bs).1).1 := by unfold getI; rw [he, he2]; rfl
 obtain ⟨hen, hW⟩ := splitF_all _ _ hbo (Nat.le_refl _) (beq_iff_eq.1 he2)
 have hwl := (encs_len hW).1
 rw [hen] at hwl
 rw [eG, read_eq hW]
 generalize (splitF (openF bs).1.length (openF bs).1).1 = l at *
 simp (maxSteps := 2000000) -implicitDefEqProofs (disch := (first | omega | rfl | assumption | (simp only [rsD]; first | omega | assumption))) only [he2, Nat.reduceAdd, Nat.reduceMul, Nat.reduceLT, Int.reduceToNat, Int.reduceAdd, Int.reduceSub, Int.reduceMul, rsU, rsC]
 generalize hJ : (((J3.bump 1).put J3.next _).bump 1).put (J3.next + 1) _ = J4
 obtain ⟨E4, n4, r4, x4⟩ := box2' hJ
 clear hJ
 have n26 : ((J3.bump 1).put J3.next (.cells true 87 [.sl a3 l.length, .b false])).next = J3.next + 1 := rfl
 generalize (J3.bump 1).put J3.next (.cells true 87 [.sl a3 l.length, .b false]) = h26 at *
 have hR4 : RdrAt J4 J3.next ⟨l, false⟩ := ⟨⟨a3, r4, Ints.mk i3⟩, hW, by simp only; omega⟩
 have b4 := (E4.blk _ (by omega)).trans b3
 refine Ok.step (count_ok hR4) fun q ⟨g1, hR5, C5, p0, p1⟩ => ?_
 obtain ⟨q, J5⟩ := q
 simp only at g1 hR5 C5
 subst g1
 have n5 := C5.next
 have x5 := (C5.blk (J3.next + 1) (by omega) (by simp)).trans x4
 have b5 := (C5.blk J.next (by omega) (by simp; omega)).trans b4
 have hF : readF unp l = (⟨(nodesB unp (countR ⟨l, false⟩).1.toNat (countR ⟨l, false⟩).2).1, (listR (nodesB unp (countR ⟨l, false⟩).1.toNat (countR ⟨l, false⟩).2).2).1, (listR (listR (nodesB unp (countR ⟨l, false⟩).1.toNat (countR ⟨l, false⟩).2).2).2).1⟩,
  (listR (listR (nodesB unp (countR ⟨l, false⟩).1.toNat (countR ⟨l, false⟩).2).2).2).2) := rfl
 rw [hF]
 generalize (countR ⟨l, false⟩).1 = N at *
 generalize (countR ⟨l, false⟩).2 = s5 at *
 rw [<- n26] at x5
 simp (maxSteps := 2000000) -implicitDefEqProofs (disch := (first | omega | rfl | assumption | (simp only [rsD]; first | omega | assumption))) only [Nat.reduceAdd, Nat.reduceMul, Nat.reduceLT, Int.reduceToNat, Int.reduceAdd, Int.reduceSub, Int.reduceMul, rsU, rsC]
 refine Ok.step (gnodes_ok (h26 := h26) (r14 := (_, J3)) x5 hR5 (by simp only; omega) (by simp only; omega) (by omega) ⟨p0, p1⟩) fun q ⟨g1, a6, x6, bl6, f6, hR6, C6⟩ => ?_
 obtain ⟨q, J6⟩ := q
 simp only at g1 x6 bl6 hR6 C6
 subst g1
 have n6 := C6.next
 obtain ⟨nf1, nf2⟩ := nodesB_few N.toNat s5
 generalize (nodesB unp N.toNat s5).1 = NN at *
 generalize (nodesB unp N.toNat s5).2 = s6 at *
 have b6 := (C6.blk J.next (by omega) (by simp; omega)).trans b5
 rw [n26] at x6
 simp (maxSteps := 2000000) -implicitDefEqProofs (disch := (first | omega | rfl | assumption | (simp only [rsD]; first | omega | assumption))) only [Nat.reduceAdd, Nat.reduceMul, Nat.reduceLT, Int.reduceToNat, Int.reduceAdd, Int.reduceSub, Int.reduceMul, rsU, rsC]
 refine Ok.step (rlist1_ok hR6 (by omega)) fun q ⟨⟨a7, g1, i7⟩, hR7, C7, q7⟩ => ?_
 obtain ⟨q, J7⟩ := q
 simp only at g1 hR7 C7
 subst g1
 have n7 := C7.next
 generalize (listR s6).1 = R7 at *
 generalize (listR s6).2 = s7 at *
 have x7 := (C7.blk (J3.next + 1) (by omega) (by simp)).trans x6
 have b7 := (C7.blk J.next (by omega) (by simp; omega)).trans b6
 have bl7 : Bld J7 89 7 NV.row a6 NN := bl6.of n7 fun b hb => C7.blk b (bl6.lt b hb) (by have := f6 b hb; simp; omega)
 simp (maxSteps := 2000000) -implicitDefEqProofs (disch := (first | omega | rfl | assumption | (simp only [rsD]; first | omega | assumption))) only [x7, Nat.reduceAdd, Nat.reduceMul, Nat.reduceLT, Int.reduceToNat, Int.reduceAdd, Int.reduceSub, Int.reduceMul, rsU, rsC]
 generalize hJ : J7.put (J3.next + 1) _ = J8
 have n8 : J8.next = J7.next := by rw [<- hJ]; rfl
 have k8 : ∀ b, b ≠ J3.next + 1 -> J8.blk b = J7.blk b := fun b hb => by rw [<- hJ]; exact s_bn hb
 have x8 : J8.blk (J3.next + 1) = some (.cells true 27 [.sl a6 NN.length, .sl a7 R7.length, .sl .nil 0]) := by rw [<- hJ]; exact s_bs
 clear hJ
 refine Ok.step (rlist1_ok (hR7.of (k8 _ (by omega))) (by omega)) fun q ⟨⟨a9, g1, i9⟩, hR9, C9, q9⟩ => ?_
 obtain ⟨q, J9⟩ := q
 simp only at g1 hR9 C9
 subst g1
 have n9 := C9.next
 generalize (listR s7).1 = R9 at *
 generalize (listR s7).2 = s9 at *
 have x9 := (C9.blk (J3.next + 1) (by omega) (by simp)).trans x8
 have b9 := (C9.blk J.next (by omega) (by simp; omega)).trans ((k8 _ (by omega)).trans b7)
 have bl9 : Bld J9 89 7 NV.row a6 NN := (bl7.of (by omega) fun b hb => k8 b (by have := f6 b hb; omega)).of n9 fun b hb => C9.blk b (by have := bl7.lt b hb; omega) (by have := f6 b hb; simp; omega)
 simp (maxSteps := 2000000) -implicitDefEqProofs (disch := (first | omega | rfl | assumption | (simp only [rsD]; first | omega | assumption))) only [x9, Nat.reduceAdd, Nat.reduceMul, Nat.reduceLT, Int.reduceToNat, Int.reduceAdd, Int.reduceSub, Int.reduceMul, rsU, rsC]
 generalize hJ : J9.put (J3.next + 1) _ = JA
 have nA : JA.next = J9.next := by rw [<- hJ]; rfl
 have kA : ∀ b, b ≠ J3.next + 1 -> JA.blk b = J9.blk b := fun b hb => by rw [<- hJ]; exact s_bn hb
 have xA : JA.blk (J3.next + 1) = some (.cells true 27 [.sl a6 NN.length, .sl a7 R7.length, .sl a9 R9.length]) := by rw [<- hJ]; exact s_bs
 clear hJ
 have hRA := hR9.of (kA _ (by omega))
 have bA := (kA J.next (by omega)).trans b9
 have blA : Bld JA 89 7 NV.row a6 NN := bl9.of (by omega) fun b hb => kA b (by have := f6 b hb; omega)
 have E0A : Ext J JA := by
  refine ⟨by omega, fun b hb => ?_⟩
  rw [kA b (by omega), C9.blk b (by omega) (by simp; omega), k8 b (by omega), C7.blk b (by omega) (by simp; omega), C6.blk b (by omega) (by simp; omega), C5.blk b (by omega) (by simp; omega)]
  exact (E03.trans E4).blk b hb
 obtain ⟨ra, rdA, _⟩ := hR9.it
 have f0 : (false == false) = true := rfl
 have f1 : (true == false) = false := rfl
 have no : ∀ {c : Prop} [Decidable c], ¬ c -> (if c then ((⟨NN, R7, R9⟩ : FV), (0 : Int)) else (zeroF, 5)) = (zeroF, 5) := fun h => if_neg h
 cases hbad : s9.bad with
 | true =>
  rw [hbad] at rdA
  rw [no (by simp)]
  simp (maxSteps := 2000000) -implicitDefEqProofs (disch := (first | omega | rfl | assumption | (simp only [rsD]; first | omega | assumption))) only [rdA, bA, f0, f1, Nat.reduceAdd, Nat.reduceMul, Nat.reduceLT, Int.reduceToNat, Int.reduceAdd, Int.reduceSub, Int.reduceMul, rsU, rsC]
  exact Ok_some.2 ⟨_, rfl, nilRow (E0A.put (Nat.le_refl _) _)⟩
 | false =>
 rw [hbad] at rdA
 by_cases hleft : s9.left = []
 case neg =>
  have d0 : decide ((s9.left.length : Int) > 0) = true := decide_eq_true (by
   have : s9.left.length ≠ 0 := fun h => hleft (List.length_eq_zero_iff.1 h)
   omega)
  rw [no (fun h => hleft h.2.1)]
  simp (maxSteps := 2000000) -implicitDefEqProofs (disch := (first | omega | rfl | assumption | (simp only [rsD]; first | omega | assumption))) only [rdA, bA, d0, f0, f1, Nat.reduceAdd, Nat.reduceMul, Nat.reduceLT, Int.reduceToNat, Int.reduceAdd, Int.reduceSub, Int.reduceMul, rsU, rsC]
  exact Ok_some.2 ⟨_, rfl, nilRow (E0A.put (Nat.le_refl _) _)⟩
 have d0 : decide ((s9.left.length : Int) > 0) = false := decide_eq_false (by rw [hleft]; simp)
 simp (maxSteps := 2000000) -implicitDefEqProofs (disch := (first | omega | rfl | assumption | (simp only [rsD]; first | omega | assumption))) only [rdA, xA, d0, f0, f1, Nat.reduceAdd, Nat.reduceMul, Nat.reduceLT, Int.reduceToNat, Int.reduceAdd, Int.reduceSub, Int.reduceMul, rsU, rsC]
 have fA : FRd JA ⟨NN, R7, R9⟩ (.agg [.sl a6 NN.length, .sl a7 R7.length, .sl a9 R9.length]) := ⟨a6, a7, a9, rfl, NodesR.bld blA, i7, i9⟩
 refine Ok.step (right_ok fA ⟨by simp only; omega, nf2, q7, q9⟩) fun q ⟨g1, EB⟩ => ?_
 obtain ⟨q, JB⟩ := q
 simp only at g1 EB
 subst g1
 have bB := (EB.blk _ (by omega)).trans bA
 have xB := (EB.blk _ (by omega)).trans xA
 have E0B := E0A.trans EB
 cases hr : rightP ⟨NN, R7, R9⟩ with
 | false =>
  rw [no (by simp)]
  simp (maxSteps := 2000000) -implicitDefEqProofs (disch := (first | omega | rfl | assumption | (simp only [rsD]; first | omega | assumption))) only [bB, f0, f1, Nat.reduceAdd, Nat.reduceMul, Nat.reduceLT, Int.reduceToNat, Int.reduceAdd, Int.reduceSub, Int.reduceMul, rsU, rsC]
  exact Ok_some.2 ⟨_, rfl, nilRow (E0B.put (Nat.le_refl _) _)⟩
 | true =>
  rw [if_pos (by simp [hleft])]
  simp (maxSteps := 2000000) -implicitDefEqProofs (disch := (first | omega | rfl | assumption | (simp only [rsD]; first | omega | assumption))) only [bB, xB, f0, f1, Nat.reduceAdd, Nat.reduceMul, Nat.reduceLT, Int.reduceToNat, Int.reduceAdd, Int.reduceSub, Int.reduceMul, rsU, rsC]
  have EF : ∀ {x : Blk O}, Ext J (JB.put J.next x) := fun {x} => E0B.put (Nat.le_refl _) _
  have blF : ∀ {x : Blk O}, Bld (JB.put J.next x) 89 7 NV.row a6 NN := fun {x} => (blA.ext EB).of (by simp) fun b hb => s_bn (by have := f6 b hb; omega)
  refine Ok_some.2 ⟨_, rfl, ?_⟩
  exact (Bld.out blF EF fun b hb => by have := f6 b hb; omega).app (New.im (.cons (ints_mk i7) (.cons (ints_mk i9) .nil)) (Ext.refl _))
end Go.Abs.Try
