/-
  The statement RootsPlay: boxes, and calls of frames. No conditions.
-/
import Derived.Test.YtgmffmgbaelohaaGreatR19
import Derived.Test.YtgmffmgbaelohaaGreatM19
import Derived.Test.YtgmffmgbaelohaaGreatAbsIn
set_option linter.unusedVariables false
set_option linter.unusedSimpArgs false
set_option linter.constructorNameAsVariable false
set_option linter.unusedSimpArgs false
set_option linter.unusedVariables false
set_option linter.unusedSectionVars false
set_option maxHeartbeats 2000000
namespace Go.Abs.Tryz
open Go Go.Abs
variable {O : Type}
theorem RX.le {J : AH O} {B : RtB} {S : RS} {X : List Nat} {k : Nat} {m m' : Int} (h : RX J B S X k m) (hm : m <= m') : RX J B S X k m' := by
 obtain ⟨M, F, wF, P, C, w, P2, C2, w2, g1, g2, g3, g4, g5, g6, g7, g8, g9, g10⟩ := h.it
 exact ⟨M, F, wF, P, C, w, P2, C2, w2, g1, g2, g3, g4, g5, g6, g7, g8, g9, by omega⟩
structure RDid (J : AH O) (B : RtB) (X : List Nat) (k : Nat) (m : Int) (r : AV × AH O) : Prop where
 it : ∃ (S' : RS) (f a b c a' b' c' : SA), r.1 = .tup [.agg (S'.vs f a b c a' b' c'), .b true] /\ S'.st f a b c a' b' c' /\ RX r.2 B S' X (k + 1) (m + 200000)
 kp : Keep X J r.2
section
variable {J : AH O} {B : RtB} {S : RS} {X : List Nat} {k : Nat} {m : Int}
theorem rboxes (h : RX J B S X k m) {x y z : Blk O} {J1 : AH O} (hJ : ((((J.bump 3).put J.next x).put (J.next + 1) y).put (J.next + 1 + 1) z) = J1) : RX J1 B S (J.next :: (J.next + 1) :: (J.next + 1 + 1) :: X) k m /\ Keep X J J1 /\ J1.blk J.next = some x /\ J1.blk (J.next + 1) = some y /\ J1.blk (J.next + 1 + 1) = some z /\ J1.next = J.next + 3 := by
 subst hJ
 have E : Ext J ((((J.bump 3).put J.next x).put (J.next + 1) y).put (J.next + 1 + 1) z) := ((((Ext.refl J).bump 3).put (Nat.le_refl _) _).put (by omega) _).put (by omega) _
 have hn : ((((J.bump 3).put J.next x).put (J.next + 1) y).put (J.next + 1 + 1) z).next = J.next + 3 := rfl
 refine ⟨h.turn (L := []) E.chg (by simp) fun b hb => ?_, ⟨by omega, fun b hb => E.blk b (h.lX b hb)⟩, ?_, ?_, s_bs, rfl⟩
 ·simp only [List.mem_cons] at hb
  rcases hb with hb | hb | hb | hb
  ·right; omega
  ·right; omega
  ·right; omega
  ·exact .inl hb
 ·rw [s_bn (by omega), s_bn (by omega)]; exact s_bs
 ·rw [s_bn (by omega)]; exact s_bs
theorem fin19 (h : RX J B S X k m) {J1 J2 J3 J4 : AH O} {S' : RS} {k' : Nat} {m' : Int} (k1 : Keep X J J1) (kp : Keep (J.next :: (J.next + 1) :: (J.next + 1 + 1) :: X) J1 J2) (E3 : Ext J2 J3)
  (hp : RX J2 B S' (J.next :: (J.next + 1) :: (J.next + 1 + 1) :: X) k' m') (n4 : J4.next = J3.next) (o4 : ∀ b, b ≠ J.next -> b ≠ J.next + 1 -> b ≠ J.next + 1 + 1 -> J4.blk b = J3.blk b) : RX J4 B S' X k' m' /\ Keep X J J4 := by
 have hX : ∀ b ∈ X, b < J.next := h.lX
 have h3 : RX J3 B S' (J.next :: (J.next + 1) :: (J.next + 1 + 1) :: X) k' m' := hp.turn (L := []) E3.chg (by simp) fun b hb => .inl hb
 refine ⟨h3.turn (L := [J.next, J.next + 1, J.next + 1 + 1]) ⟨by rw [n4]; exact Nat.le_refl _, fun b hb hm => by simp at hm; exact o4 b hm.1 hm.2.1 hm.2.2⟩ (fun b hb => ?_) fun b hb => .inl (by simp [hb]), ?_⟩
 ·simp at hb
  rcases hb with rfl | rfl | rfl <;> exact .inl (by simp)
 ·have hl2 : ∀ b ∈ X, b < J2.next := fun b hb => hp.lX b (by simp [hb])
  exact ⟨by rw [n4]; exact Nat.le_trans k1.next (Nat.le_trans kp.next E3.next), fun b hb => by
   have := hX b hb
   rw [o4 b (by omega) (by omega) (by omega), E3.blk b (hl2 b hb), kp.blk b (by simp [hb]), k1.blk b hb]⟩
variable {f a b c a' b' c' : SA} (h : RX J B S X k m) (hk : k < 80) (hm : m <= 100000000) (hs : S.st f a b c a' b' c')
include h hk hm hs
theorem slots_push {n wv : Int} (hn : -9223372036854775808 <= n /\ n <= 9223372036854775807) :
  Ok (law19_slots [.p (some (.n B.rb, 0)), .agg (S.vs f a b c a' b' c'), .agg [.i .i64 0, .i .i64 n, .i .u64 wv]] J) (RDid J B X k m) := by
 have e1 : ((0 : Int) == 0) = true := rfl
 have hsm := h.sm (by omega)
 by_cases c0 : n < 0 ∨ n > 256
 ·have d0 : (decide (n < 0) == false) = !(decide (n < 0)) := by cases decide (n < 0) <;> rfl
  simp (maxSteps := 2000000) -implicitDefEqProofs (disch := (first | omega | rfl | assumption | (simp only [rsD]; first | omega | assumption))) only [law19_slots, law19_slots_c, RS.vs, e1, Nat.reduceAdd, Nat.reduceMul, Nat.reduceLT, Int.reduceToNat, Int.reduceAdd, Int.reduceSub, Int.reduceMul, rsU, rsC]
  generalize hJ : AH.put _ (J.next + 1 + 1) _ = J1
  obtain ⟨h1, k1, b0, b1, b2, n1⟩ := rboxes h hJ
  clear hJ
  obtain ⟨el, x1, x2, hf, _⟩ := h1.frames
  have pb := rxpush_bad h1 (by omega) c0
  have key : Ok (some (AV.tup [.agg (S.vs f a b c a' b' c'), .b true], J1.put (J.next + 1 + 1) (.cells true T_haymowref19_State (S.vs f a b c a' b' c')))) (RDid J B X k m) := by
   obtain ⟨f1, f2⟩ := fin19 h (J4 := J1.put (J.next + 1 + 1) (.cells true T_haymowref19_State (S.vs f a b c a' b' c'))) k1 (Keep.refl _ _) (Ext.refl _) h1 rfl fun b x1 x2 x3 => s_bn x3
   exact Ok_some.2 ⟨⟨S, f, a, b, c, a', b', c', rfl, hs, f1.up.le (by omega)⟩, f2⟩
  by_cases c1 : n < 0
  ·have d1 := decide_eq_true c1
   have d2 : (true == false) = false := rfl
   simp (maxSteps := 2000000) -implicitDefEqProofs (disch := (first | omega | rfl | assumption | (simp only [rsD]; first | omega | assumption))) only [b0, b1, b2, hf, pb, d1, d2, Nat.reduceAdd, Nat.reduceMul, Nat.reduceLT, Int.reduceToNat, Int.reduceAdd, Int.reduceSub, Int.reduceMul, rsU, rsC]
   exact key
  ·have d1 := decide_eq_false c1
   have d2 : (false == false) = true := rfl
   have d3 := decide_eq_true (show n > 256 by omega)
   simp (maxSteps := 2000000) -implicitDefEqProofs (disch := (first | omega | rfl | assumption | (simp only [rsD]; first | omega | assumption))) only [b0, b1, b2, hf, pb, d1, d2, d3, Nat.reduceAdd, Nat.reduceMul, Nat.reduceLT, Int.reduceToNat, Int.reduceAdd, Int.reduceSub, Int.reduceMul, rsU, rsC]
   exact key
 ·obtain ⟨j, rfl⟩ := Int.eq_ofNat_of_zero_le (show 0 <= n by omega)
  simp (maxSteps := 2000000) -implicitDefEqProofs (disch := (first | omega | rfl | assumption | (simp only [rsD]; first | omega | assumption))) only [law19_slots, law19_slots_c, RS.vs, e1, Nat.reduceAdd, Nat.reduceMul, Nat.reduceLT, Int.reduceToNat, Int.reduceAdd, Int.reduceSub, Int.reduceMul, rsU, rsC]
  generalize hJ : AH.put _ (J.next + 1 + 1) _ = J1
  obtain ⟨h1, k1, b0, b1, b2, n1⟩ := rboxes h hJ
  clear hJ
  obtain ⟨el, x1, x2, hf, _⟩ := h1.frames
  have d1 := decide_eq_false (show ¬ (j : Int) < 0 by omega)
  have d2 : (false == false) = true := rfl
  have d3 := decide_eq_false (show ¬ (j : Int) > 256 by omega)
  simp (maxSteps := 2000000) -implicitDefEqProofs (disch := (first | omega | rfl | assumption | (simp only [rsD]; first | omega | assumption))) only [b0, b1, b2, hf, Nat.reduceAdd, Nat.reduceMul, Nat.reduceLT, Int.reduceToNat, Int.reduceAdd, Int.reduceSub, Int.reduceMul, rsU, rsC]
  refine Ok.step (rxpush h1 (by omega) hk (n := j) (by omega)) fun r ⟨p1, p2, p3⟩ => ?_
  obtain ⟨q, J2⟩ := r
  simp only at p1 p2 p3
  subst p1
  have c0 : J2.blk J.next = _ := (p3.blk _ (by simp)).trans b0
  have c1 : J2.blk (J.next + 1) = _ := (p3.blk _ (by simp)).trans b1
  have c2 : J2.blk (J.next + 1 + 1) = _ := (p3.blk _ (by simp)).trans b2
  simp (maxSteps := 2000000) -implicitDefEqProofs (disch := (first | omega | rfl | assumption | (simp only [rsD]; first | omega | assumption))) only [c0, c1, c2, d1, d2, d3, Nat.reduceAdd, Nat.reduceMul, Nat.reduceLT, Int.reduceToNat, Int.reduceAdd, Int.reduceSub, Int.reduceMul, rsU, rsC]
  have doc := rrpush_ok (J := J2) hsm hs (n := j) (by omega)
  simp only [RS.vs] at doc
  refine Ok.step doc fun r ⟨⟨f', a2, b2', c2', a3, b3, c3, e', hst⟩, E3⟩ => ?_
  obtain ⟨q, J3⟩ := r
  simp only at e' E3
  subst e'
  have n2 := p3.next
  have d4 : J3.blk (J.next + 1 + 1) = _ := (E3.blk _ (by omega)).trans c2
  simp (maxSteps := 2000000) -implicitDefEqProofs (disch := (first | omega | rfl | assumption | (simp only [rsD]; first | omega | assumption))) only [RS.vs, d4, Nat.reduceAdd, Nat.reduceMul, Nat.reduceLT, Int.reduceToNat, Int.reduceAdd, Int.reduceSub, Int.reduceMul, rsU, rsC]
  obtain ⟨f1, f2⟩ := fin19 h (J4 := J3.put (J.next + 1 + 1) (.cells true T_haymowref19_State (RS.vs ⟨List.replicate j 0 :: S.L, S.G, S.K⟩ f' a2 b2' c2' a3 b3 c3))) k1 p3 E3 p2 rfl fun b x1 x2 x3 => s_bn x3
  exact Ok_some.2 ⟨⟨_, f', a2, b2', c2', a3, b3, c3, rfl, hst, f1.le (by omega)⟩, f2⟩
theorem slots_pop {n wv : Int} :
  Ok (law19_slots [.p (some (.n B.rb, 0)), .agg (S.vs f a b c a' b' c'), .agg [.i .i64 1, .i .i64 n, .i .u64 wv]] J) (RDid J B X k m) := by
 have e1 : ((1 : Int) == 0) = false := rfl
 have hsm := h.sm (by omega)
 cases hL : S.L with
 | nil =>
  simp (maxSteps := 2000000) -implicitDefEqProofs (disch := (first | omega | rfl | assumption | (simp only [rsD]; first | omega | assumption))) only [law19_slots, law19_slots_c, RS.vs, e1, Nat.reduceAdd, Nat.reduceMul, Nat.reduceLT, Int.reduceToNat, Int.reduceAdd, Int.reduceSub, Int.reduceMul, rsU, rsC]
  generalize hJ : AH.put _ (J.next + 1 + 1) _ = J1
  obtain ⟨h1, k1, b0, b1, b2, n1⟩ := rboxes h hJ
  clear hJ
  obtain ⟨el, x1, x2, hf, _⟩ := h1.frames
  have pb := rxpop_none h1 (by omega) hL
  have hl0 : S.L.reverse.length = 0 := by rw [hL]; rfl
  rw [hl0] at b0
  have key : Ok (some (AV.tup [.agg (S.vs f a b c a' b' c'), .b true], J1.put (J.next + 1 + 1) (.cells true T_haymowref19_State (S.vs f a b c a' b' c')))) (RDid J B X k m) := by
   obtain ⟨f1, f2⟩ := fin19 h (J4 := J1.put (J.next + 1 + 1) (.cells true T_haymowref19_State (S.vs f a b c a' b' c'))) k1 (Keep.refl _ _) (Ext.refl _) h1 rfl fun b x1 x2 x3 => s_bn x3
   exact Ok_some.2 ⟨⟨S, f, a, b, c, a', b', c', rfl, hs, f1.up.le (by omega)⟩, f2⟩
  simp only [RS.vs, hl0] at key
  simp (maxSteps := 2000000) -implicitDefEqProofs (disch := (first | omega | rfl | assumption | (simp only [rsD]; first | omega | assumption))) only [b0, b1, b2, hf, pb, Nat.reduceAdd, Nat.reduceMul, Nat.reduceLT, Int.reduceToNat, Int.reduceAdd, Int.reduceSub, Int.reduceMul, rsU, rsC]
  exact key
 | cons g r =>
  simp (maxSteps := 2000000) -implicitDefEqProofs (disch := (first | omega | rfl | assumption | (simp only [rsD]; first | omega | assumption))) only [law19_slots, law19_slots_c, RS.vs, e1, Nat.reduceAdd, Nat.reduceMul, Nat.reduceLT, Int.reduceToNat, Int.reduceAdd, Int.reduceSub, Int.reduceMul, rsU, rsC]
  generalize hJ : AH.put _ (J.next + 1 + 1) _ = J1
  obtain ⟨h1, k1, b0, b1, b2, n1⟩ := rboxes h hJ
  clear hJ
  obtain ⟨el, x1, x2, hf, _⟩ := h1.frames
  simp (maxSteps := 2000000) -implicitDefEqProofs (disch := (first | omega | rfl | assumption | (simp only [rsD]; first | omega | assumption))) only [b0, b1, b2, hf, Nat.reduceAdd, Nat.reduceMul, Nat.reduceLT, Int.reduceToNat, Int.reduceAdd, Int.reduceSub, Int.reduceMul, rsU, rsC]
  refine Ok.step (rxpop h1 (by omega) hL) fun q ⟨p1, p2, p3⟩ => ?_
  obtain ⟨q, J2⟩ := q
  simp only at p1 p2 p3
  subst p1
  have c0 : J2.blk J.next = _ := (p3.blk _ (by simp)).trans b0
  have c1 : J2.blk (J.next + 1) = _ := (p3.blk _ (by simp)).trans b1
  have c2 : J2.blk (J.next + 1 + 1) = _ := (p3.blk _ (by simp)).trans b2
  have hl0 : (S.L.reverse.length : Int) = (r.length : Int) + 1 := by rw [hL]; simp
  have hl1 : ((r.length : Int) + 1 == 0) = false := s_eqF (by omega)
  have hl2 : (r.length : Int) + 1 - 1 = (r.length : Int) := by omega
  have hn := hsm.f.n
  have hrl : r.length <= 100 := by rw [hL] at hn; simp at hn; omega
  obtain ⟨vs, ia, ca⟩ := hs.f
  rw [hL] at ia ca
  obtain ⟨f2, ha, ia2⟩ := ia.adv (lo := 0) (m := r.length) (by simp)
  have ca2 := ca.take r.length
  have ht : ((g :: r).reverse.map frow).take r.length = r.reverse.map frow := by
   rw [<- List.map_take, List.reverse_cons, List.take_append_of_le_length (by simp), List.take_of_length_le (by simp)]
  rw [ht] at ca2
  rw [Nat.zero_mul, List.drop_zero, Nat.mul_one] at ia2
  have st2 : RS.st ⟨r, S.G, S.K⟩ f2 a b c a' b' c' := ⟨⟨_, by rw [List.length_reverse]; exact ia2, ca2⟩, hs.g, hs.k⟩
  have hl3 : ((r.length : Int).toNat - 0) = r.length := by omega
  simp (maxSteps := 2000000) -implicitDefEqProofs (disch := (first | omega | rfl | assumption | (simp only [rsD]; first | omega | assumption))) only [c0, c1, c2, hl0, hl1, hl2, ha, hl3, Nat.reduceAdd, Nat.reduceMul, Nat.reduceLT, Int.reduceToNat, Int.reduceAdd, Int.reduceSub, Int.reduceMul, rsU, rsC]
  obtain ⟨f1, f3⟩ := fin19 h (J4 := (J2.put J.next (.cells true T_haymowref19_State (RS.vs ⟨r, S.G, S.K⟩ f2 a b c a' b' c'))).put (J.next + 1 + 1) (.cells true T_haymowref19_State (RS.vs ⟨r, S.G, S.K⟩ f2 a b c a' b' c'))) k1 p3 (Ext.refl _) p2 rfl fun b x1 x2 x3 => by simp -implicitDefEqProofs (disch := omega) only [s_bn, s_bs, s_kn, bump_blk]
  have hl4 : r.reverse.length = r.length := by simp
  simp only [RS.vs, hl4] at f1 f3
  exact Ok_some.2 ⟨⟨_, f2, a, b, c, a', b', c', by simp only [RS.vs, hl4, Nat.sub_zero], st2, f1.le (by omega)⟩, f3⟩
end
end Go.Abs.Tryz
namespace Go.Abs.Tryz
open Go Go.Abs
variable {O : Type}
section
variable {J : AH O} {B : RtB} {S : RS} {X : List Nat} {k : Nat} {m : Int}
theorem RX.docK {x y z : SA} (h : RX J B S X k m) (hk : k <= 80) (st : S.K.st x y z) {t : Int} (ht : -9223372036854775808 <= t /\ t <= 9223372036854775807) (J' : AH O) :
  Ok (haymowref18_Drop [.agg (S.K.vs x y z), .i .i64 t] J') fun r => (∃ v', r.1 = .tup [v', .i .i64 (S.K.code t)] /\ (S.K.drop t).at_ v') /\ Ext J' r.2 := by
 have hsm := h.sm hk
 obtain ⟨M, F, wF, P, C, w, P2, C2, w2, g1, g2, g3, g4, g5, g6, g7, g8, g9, g10⟩ := h.it
 exact rhdrop_ok st hsm.k (g4.small g6 hk) (g4.gens g6 hk) ht
theorem RX.docG {x y z : SA} (h : RX J B S X k m) (hk : k <= 80) (st : S.G.st x y z) {t : Int} (ht : -9223372036854775808 <= t /\ t <= 9223372036854775807) (J' : AH O) :
  Ok (haymowref18_Drop [.agg (S.G.vs x y z), .i .i64 t] J') fun r => (∃ v', r.1 = .tup [v', .i .i64 (S.G.code t)] /\ (S.G.drop t).at_ v') /\ Ext J' r.2 := by
 have hsm := h.sm hk
 obtain ⟨M, F, wF, P, C, w, P2, C2, w2, g1, g2, g3, g4, g5, g6, g7, g8, g9, g10⟩ := h.it
 exact rhdrop_ok st hsm.g (g3.small g5 hk) (g3.gens g5 hk) ht
variable {f a b c a' b' c' : SA} (h : RX J B S X k m) (hk : k < 80) (hm : m <= 100000000) (hs : S.st f a b c a' b' c')
include h hk hm hs
theorem weak_add {n wv : Int} :
  Ok (law19_weak [.p (some (.n B.rb, 0)), .agg (S.vs f a b c a' b' c'), .agg [.i .i64 4, .i .i64 n, .i .u64 wv]] J) (RDid J B X k m) := by
 have q4 : ((4 : Int) == 4) = true := rfl
 have hsm := h.sm (by omega)
 simp (maxSteps := 2000000) -implicitDefEqProofs (disch := (first | omega | rfl | assumption | (simp only [rsD]; first | omega | assumption))) only [law19_weak, law19_weak_c, RS.vs, q4, Nat.reduceAdd, Nat.reduceMul, Nat.reduceLT, Int.reduceToNat, Int.reduceAdd, Int.reduceSub, Int.reduceMul, rsU, rsC]
 generalize hJ : AH.put _ (J.next + 1 + 1) _ = J1
 obtain ⟨h1, k1, b0, b1, b2, n1⟩ := rboxes h hJ
 clear hJ
 refine Ok.step (rxaddw h1 (by omega) hk hs.k (x := wv)) fun r ⟨t, H, p1, doc, p2, p3⟩ => ?_
 obtain ⟨q, J2⟩ := r
 simp only at p1 p2 p3
 subst p1
 have c0 : J2.blk J.next = _ := (p3.blk _ (by simp)).trans b0
 have c1 : J2.blk (J.next + 1) = _ := (p3.blk _ (by simp)).trans b1
 have c2 : J2.blk (J.next + 1 + 1) = _ := (p3.blk _ (by simp)).trans b2
 have n2 := p3.next
 simp (maxSteps := 2000000) -implicitDefEqProofs (disch := (first | omega | rfl | assumption | (simp only [rsD]; first | omega | assumption))) only [c0, c1, c2, Nat.reduceAdd, Nat.reduceMul, Nat.reduceLT, Int.reduceToNat, Int.reduceAdd, Int.reduceSub, Int.reduceMul, rsU, rsC]
 have doc := doc J2
 simp only [HS.vs] at doc
 refine Ok.step doc fun r ⟨⟨v', g1, x, y, z, e', hst⟩, E3⟩ => ?_
 obtain ⟨q, J3⟩ := r
 simp only at g1 E3
 subst g1
 subst e'
 have d0 : J3.blk J.next = _ := (E3.blk _ (by omega)).trans c0
 have d1 : J3.blk (J.next + 1) = _ := (E3.blk _ (by omega)).trans c1
 have d2 : J3.blk (J.next + 1 + 1) = _ := (E3.blk _ (by omega)).trans c2
 simp (maxSteps := 2000000) -implicitDefEqProofs (disch := (first | omega | rfl | assumption | (simp only [rsD]; first | omega | assumption))) only [HS.vs, d0, d1, d2, Nat.reduceAdd, Nat.reduceMul, Nat.reduceLT, Int.reduceToNat, Int.reduceAdd, Int.reduceSub, Int.reduceMul, rsU, rsC]
 obtain ⟨f1, f2⟩ := fin19 h (J4 := (J3.put J.next (.cells true T_haymowref19_State (RS.vs { S with K := H } f a b c x y z))).put (J.next + 1 + 1) (.cells true T_haymowref19_State (RS.vs { S with K := H } f a b c x y z))) k1 p3 E3 p2 rfl fun b x1 x2 x3 => by simp -implicitDefEqProofs (disch := omega) only [s_bn, s_bs, s_kn, bump_blk]
 exact Ok_some.2 ⟨⟨{ S with K := H }, f, a, b, c, x, y, z, rfl, ⟨hs.f, hs.g, hst⟩, f1.le (by omega)⟩, f2⟩
theorem weak_drop {n wv : Int} (hn : -9223372036854775808 <= n /\ n <= 9223372036854775807) :
  Ok (law19_weak [.p (some (.n B.rb, 0)), .agg (S.vs f a b c a' b' c'), .agg [.i .i64 5, .i .i64 n, .i .u64 wv]] J) (RDid J B X k m) := by
 have q4 : ((5 : Int) == 4) = false := rfl
 have q5 : ((5 : Int) == 5) = true := rfl
 have hsm := h.sm (by omega)
 simp (maxSteps := 2000000) -implicitDefEqProofs (disch := (first | omega | rfl | assumption | (simp only [rsD]; first | omega | assumption))) only [law19_weak, law19_weak_c, RS.vs, q4, q5, Nat.reduceAdd, Nat.reduceMul, Nat.reduceLT, Int.reduceToNat, Int.reduceAdd, Int.reduceSub, Int.reduceMul, rsU, rsC]
 generalize hJ : AH.put _ (J.next + 1 + 1) _ = J1
 obtain ⟨h1, k1, b0, b1, b2, n1⟩ := rboxes h hJ
 clear hJ
 have doc := RX.docK h (by omega) hs.k hn
 refine Ok.step (rxdropw h1 (by omega) hk hn) fun r ⟨p1, p2, p3⟩ => ?_
 obtain ⟨q, J2⟩ := r
 simp only at p1 p2 p3
 subst p1
 have c0 : J2.blk J.next = _ := (p3.blk _ (by simp)).trans b0
 have c1 : J2.blk (J.next + 1) = _ := (p3.blk _ (by simp)).trans b1
 have c2 : J2.blk (J.next + 1 + 1) = _ := (p3.blk _ (by simp)).trans b2
 have n2 := p3.next
 simp (maxSteps := 2000000) -implicitDefEqProofs (disch := (first | omega | rfl | assumption | (simp only [rsD]; first | omega | assumption))) only [c0, c1, c2, Nat.reduceAdd, Nat.reduceMul, Nat.reduceLT, Int.reduceToNat, Int.reduceAdd, Int.reduceSub, Int.reduceMul, rsU, rsC]
 have doc := doc J2
 simp only [HS.vs] at doc
 refine Ok.step doc fun r ⟨⟨v', g1, x, y, z, e', hst⟩, E3⟩ => ?_
 obtain ⟨q, J3⟩ := r
 simp only at g1 E3
 subst g1
 subst e'
 have d0 : J3.blk J.next = _ := (E3.blk _ (by omega)).trans c0
 have d1 : J3.blk (J.next + 1) = _ := (E3.blk _ (by omega)).trans c1
 have d2 : J3.blk (J.next + 1 + 1) = _ := (E3.blk _ (by omega)).trans c2
 have ec : ((S.K.code n) == (S.K.code n)) = true := s_eqT rfl
 simp (maxSteps := 2000000) -implicitDefEqProofs (disch := (first | omega | rfl | assumption | (simp only [rsD]; first | omega | assumption))) only [HS.vs, d0, d1, d2, ec, Nat.reduceAdd, Nat.reduceMul, Nat.reduceLT, Int.reduceToNat, Int.reduceAdd, Int.reduceSub, Int.reduceMul, rsU, rsC]
 obtain ⟨f1, f2⟩ := fin19 h (J4 := (J3.put J.next (.cells true T_haymowref19_State (RS.vs { S with K := S.K.drop n } f a b c x y z))).put (J.next + 1 + 1) (.cells true T_haymowref19_State (RS.vs { S with K := S.K.drop n } f a b c x y z))) k1 p3 E3 p2 rfl fun b x1 x2 x3 => by simp -implicitDefEqProofs (disch := omega) only [s_bn, s_bs, s_kn, bump_blk]
 exact Ok_some.2 ⟨⟨{ S with K := S.K.drop n }, f, a, b, c, x, y, z, rfl, ⟨hs.f, hs.g, hst⟩, f1.le (by omega)⟩, f2⟩
end
end Go.Abs.Tryz
namespace Go.Abs.Tryz
open Go Go.Abs
variable {O : Type}
section
variable {J : AH O} {B : RtB} {S : RS} {X : List Nat} {k : Nat} {m : Int}
variable {f a b c a' b' c' : SA} (h : RX J B S X k m) (hk : k < 80) (hm : m <= 100000000) (hs : S.st f a b c a' b' c')
include h hk hm hs
theorem weak_get {n wv : Int} (hn : -9223372036854775808 <= n /\ n <= 9223372036854775807) :
  Ok (law19_weak [.p (some (.n B.rb, 0)), .agg (S.vs f a b c a' b' c'), .agg [.i .i64 6, .i .i64 n, .i .u64 wv]] J) (RDid J B X k m) := by
 have q4 : ((6 : Int) == 4) = false := rfl
 have q5 : ((6 : Int) == 5) = false := rfl
 have hsm := h.sm (by omega)
 have hkl := hsm.k
 simp (maxSteps := 2000000) -implicitDefEqProofs (disch := (first | omega | rfl | assumption | (simp only [rsD]; first | omega | assumption))) only [law19_weak, law19_weak_c, RS.vs, q4, q5, Nat.reduceAdd, Nat.reduceMul, Nat.reduceLT, Int.reduceToNat, Int.reduceAdd, Int.reduceSub, Int.reduceMul, rsU, rsC]
 generalize hJ : AH.put _ (J.next + 1 + 1) _ = J1
 obtain ⟨h1, k1, b0, b1, b2, n1⟩ := rboxes h hJ
 clear hJ
 refine Ok.step (rxweak h1 (by omega) hn) fun r ⟨p1, p2, p3⟩ => ?_
 obtain ⟨q, J2⟩ := r
 simp only at p1 p2 p3
 subst p1
 have c0 : J2.blk J.next = _ := (p3.blk _ (by simp)).trans b0
 have c1 : J2.blk (J.next + 1) = _ := (p3.blk _ (by simp)).trans b1
 have c2 : J2.blk (J.next + 1 + 1) = _ := (p3.blk _ (by simp)).trans b2
 have n2 := p3.next
 simp (maxSteps := 2000000) -implicitDefEqProofs (disch := (first | omega | rfl | assumption | (simp only [rsD]; first | omega | assumption))) only [c0, c1, c2, Nat.reduceAdd, Nat.reduceMul, Nat.reduceLT, Int.reduceToNat, Int.reduceAdd, Int.reduceSub, Int.reduceMul, rsU, rsC]
 have doc := rhat_ok (J := J2) hs.k (t := n) hkl
 simp only [HS.vs] at doc
 refine Ok.step doc fun r ⟨g1, E3⟩ => ?_
 obtain ⟨q, J3⟩ := r
 simp only at g1 E3
 subst g1
 have d0 : J3.blk J.next = _ := (E3.blk _ (by omega)).trans c0
 have d1 : J3.blk (J.next + 1) = _ := (E3.blk _ (by omega)).trans c1
 have d2 : J3.blk (J.next + 1 + 1) = _ := (E3.blk _ (by omega)).trans c2
 have fin : Ok (some (AV.tup [.agg (S.vs f a b c a' b' c'), .b true], J3.put (J.next + 1 + 1) (.cells true T_haymowref19_State (S.vs f a b c a' b' c')))) (RDid J B X k m) := by
  obtain ⟨f1, f2⟩ := fin19 h (J4 := J3.put (J.next + 1 + 1) (.cells true T_haymowref19_State (S.vs f a b c a' b' c'))) k1 p3 E3 p2 rfl fun b x1 x2 x3 => s_bn x3
  exact Ok_some.2 ⟨⟨S, f, a, b, c, a', b', c', rfl, hs, f1.up.le (by omega)⟩, f2⟩
 simp only [RS.vs] at fin
 unfold HS.atI HS.getv HS.code
 cases ha : S.K.at n with
 | none =>
  simp only
  simp (maxSteps := 2000000) -implicitDefEqProofs (disch := (first | omega | rfl | assumption | (simp only [rsD]; first | omega | assumption))) only [d0, d1, d2, Nat.reduceAdd, Nat.reduceMul, Nat.reduceLT, Int.reduceToNat, Int.reduceAdd, Int.reduceSub, Int.reduceMul, rsU, rsC]
  exact fin
 | some i =>
  obtain ⟨x, hx, hi, _⟩ := HS.at_some ha
  obtain ⟨qb, qo, rfl, hld⟩ := Imm.row hcell_len hs.k.l hx (by decide)
  have ld1 : J3.ld qb (qo + i * 2 + 1) = some (.i .u64 x) := hld O J3 1 (by decide)
  have hv : (S.K.L.getD i (0, 0)).2 = x := by rw [List.getD_eq_getElem?_getD, hx]; rfl
  simp only
  rw [hv]
  have ex : (x == x) = true := s_eqT rfl
  simp (maxSteps := 2000000) -implicitDefEqProofs (disch := (first | omega | rfl | assumption | (simp only [rsD]; first | omega | assumption))) only [d0, d1, d2, ld1, ex, Nat.reduceAdd, Nat.reduceMul, Nat.reduceLT, Int.reduceToNat, Int.reduceAdd, Int.reduceSub, Int.reduceMul, rsU, rsC]
  exact fin
end
end Go.Abs.Tryz
set_option maxHeartbeats 4000000
set_option maxRecDepth 20000
namespace Go.Abs.Tryz
open Go Go.Abs
variable {O : Type}
section
variable {J : AH O} {B : RtB} {S : RS} {X : List Nat} {k : Nat} {m : Int}
variable {f a b c a' b' c' : SA} (h : RX J B S X k m) (hk : k < 80) (hm : m <= 100000000) (hs : S.st f a b c a' b' c')
include h hk hm hs
theorem do_add {n wv : Int} :
  Ok (law19_do [.p (some (.n B.rb, 0)), .agg (S.vs f a b c a' b' c'), .agg [.i .i64 2, .i .i64 n, .i .u64 wv]] J) (RDid J B X k m) := by
 have q0 : ((2 : Int) == 0) = false := rfl
 have q1 : ((2 : Int) == 1) = false := rfl
 have q2 : ((2 : Int) == 2) = true := rfl
 have hsm := h.sm (by omega)
 simp (maxSteps := 2000000) -implicitDefEqProofs (disch := (first | omega | rfl | assumption | (simp only [rsD]; first | omega | assumption))) only [law19_do, law19_do_c, RS.vs, q0, q1, q2, Nat.reduceAdd, Nat.reduceMul, Nat.reduceLT, Int.reduceToNat, Int.reduceAdd, Int.reduceSub, Int.reduceMul, rsU, rsC]
 generalize hJ : AH.put _ (J.next + 1 + 1) _ = J1
 obtain ⟨h1, k1, b0, b1, b2, n1⟩ := rboxes h hJ
 clear hJ
 refine Ok.step (rxadd h1 (by omega) hk hs.g) fun r ⟨t, H, p1, doc, p2, p3⟩ => ?_
 obtain ⟨q, J2⟩ := r
 simp only at p1 p2 p3
 subst p1
 have c0 : J2.blk J.next = _ := (p3.blk _ (by simp)).trans b0
 have c1 : J2.blk (J.next + 1) = _ := (p3.blk _ (by simp)).trans b1
 have c2 : J2.blk (J.next + 1 + 1) = _ := (p3.blk _ (by simp)).trans b2
 have n2 := p3.next
 simp (maxSteps := 2000000) -implicitDefEqProofs (disch := (first | omega | rfl | assumption | (simp only [rsD]; first | omega | assumption))) only [c0, c1, c2, Nat.reduceAdd, Nat.reduceMul, Nat.reduceLT, Int.reduceToNat, Int.reduceAdd, Int.reduceSub, Int.reduceMul, rsU, rsC]
 have doc := doc J2
 simp only [HS.vs] at doc
 refine Ok.step doc fun r ⟨⟨v', g1, x, y, z, e', hst⟩, E3⟩ => ?_
 obtain ⟨q, J3⟩ := r
 simp only at g1 E3
 subst g1
 subst e'
 have d0 : J3.blk J.next = _ := (E3.blk _ (by omega)).trans c0
 have d1 : J3.blk (J.next + 1) = _ := (E3.blk _ (by omega)).trans c1
 have d2 : J3.blk (J.next + 1 + 1) = _ := (E3.blk _ (by omega)).trans c2
 simp (maxSteps := 2000000) -implicitDefEqProofs (disch := (first | omega | rfl | assumption | (simp only [rsD]; first | omega | assumption))) only [HS.vs, d0, d1, d2, Nat.reduceAdd, Nat.reduceMul, Nat.reduceLT, Int.reduceToNat, Int.reduceAdd, Int.reduceSub, Int.reduceMul, rsU, rsC]
 obtain ⟨f1, f2⟩ := fin19 h (J4 := (J3.put J.next (.cells true T_haymowref19_State (RS.vs { S with G := H } f x y z a' b' c'))).put (J.next + 1 + 1) (.cells true T_haymowref19_State (RS.vs { S with G := H } f x y z a' b' c'))) k1 p3 E3 p2 rfl fun b x1 x2 x3 => by simp -implicitDefEqProofs (disch := omega) only [s_bn, s_bs, s_kn, bump_blk]
 exact Ok_some.2 ⟨⟨{ S with G := H }, f, x, y, z, a', b', c', rfl, ⟨hs.f, hst, hs.k⟩, f1.le (by omega)⟩, f2⟩
theorem do_drop {n wv : Int} (hn : -9223372036854775808 <= n /\ n <= 9223372036854775807) :
  Ok (law19_do [.p (some (.n B.rb, 0)), .agg (S.vs f a b c a' b' c'), .agg [.i .i64 3, .i .i64 n, .i .u64 wv]] J) (RDid J B X k m) := by
 have q0 : ((3 : Int) == 0) = false := rfl
 have q1 : ((3 : Int) == 1) = false := rfl
 have q2 : ((3 : Int) == 2) = false := rfl
 have q3 : ((3 : Int) == 3) = true := rfl
 have hsm := h.sm (by omega)
 simp (maxSteps := 2000000) -implicitDefEqProofs (disch := (first | omega | rfl | assumption | (simp only [rsD]; first | omega | assumption))) only [law19_do, law19_do_c, RS.vs, q0, q1, q2, q3, Nat.reduceAdd, Nat.reduceMul, Nat.reduceLT, Int.reduceToNat, Int.reduceAdd, Int.reduceSub, Int.reduceMul, rsU, rsC]
 generalize hJ : AH.put _ (J.next + 1 + 1) _ = J1
 obtain ⟨h1, k1, b0, b1, b2, n1⟩ := rboxes h hJ
 clear hJ
 have doc := RX.docG h (by omega) hs.g hn
 refine Ok.step (rxdrop h1 (by omega) hk hn) fun r ⟨p1, p2, p3⟩ => ?_
 obtain ⟨q, J2⟩ := r
 simp only at p1 p2 p3
 subst p1
 have c0 : J2.blk J.next = _ := (p3.blk _ (by simp)).trans b0
 have c1 : J2.blk (J.next + 1) = _ := (p3.blk _ (by simp)).trans b1
 have c2 : J2.blk (J.next + 1 + 1) = _ := (p3.blk _ (by simp)).trans b2
 have n2 := p3.next
 simp (maxSteps := 2000000) -implicitDefEqProofs (disch := (first | omega | rfl | assumption | (simp only [rsD]; first | omega | assumption))) only [c0, c1, c2, Nat.reduceAdd, Nat.reduceMul, Nat.reduceLT, Int.reduceToNat, Int.reduceAdd, Int.reduceSub, Int.reduceMul, rsU, rsC]
 have doc := doc J2
 simp only [HS.vs] at doc
 refine Ok.step doc fun r ⟨⟨v', g1, x, y, z, e', hst⟩, E3⟩ => ?_
 obtain ⟨q, J3⟩ := r
 simp only at g1 E3
 subst g1
 subst e'
 have d0 : J3.blk J.next = _ := (E3.blk _ (by omega)).trans c0
 have d1 : J3.blk (J.next + 1) = _ := (E3.blk _ (by omega)).trans c1
 have d2 : J3.blk (J.next + 1 + 1) = _ := (E3.blk _ (by omega)).trans c2
 have ec : ((S.G.code n) == (S.G.code n)) = true := s_eqT rfl
 simp (maxSteps := 2000000) -implicitDefEqProofs (disch := (first | omega | rfl | assumption | (simp only [rsD]; first | omega | assumption))) only [HS.vs, d0, d1, d2, ec, Nat.reduceAdd, Nat.reduceMul, Nat.reduceLT, Int.reduceToNat, Int.reduceAdd, Int.reduceSub, Int.reduceMul, rsU, rsC]
 obtain ⟨f1, f2⟩ := fin19 h (J4 := (J3.put J.next (.cells true T_haymowref19_State (RS.vs { S with G := S.G.drop n } f x y z a' b' c'))).put (J.next + 1 + 1) (.cells true T_haymowref19_State (RS.vs { S with G := S.G.drop n } f x y z a' b' c'))) k1 p3 E3 p2 rfl fun b x1 x2 x3 => by simp -implicitDefEqProofs (disch := omega) only [s_bn, s_bs, s_kn, bump_blk]
 exact Ok_some.2 ⟨⟨{ S with G := S.G.drop n }, f, x, y, z, a', b', c', rfl, ⟨hs.f, hst, hs.k⟩, f1.le (by omega)⟩, f2⟩
end
end Go.Abs.Tryz
namespace Go.Abs.Tryz
open Go Go.Abs
variable {O : Type}
section
variable {J : AH O} {B : RtB} {S : RS} {X : List Nat} {k : Nat} {m : Int}
variable {f a b c a' b' c' : SA} (h : RX J B S X k m) (hk : k < 80) (hm : m <= 100000000) (hs : S.st f a b c a' b' c')
include h hk hm hs
theorem do_set {n wv : Int} (hn : -9223372036854775808 <= n /\ n <= 9223372036854775807) :
  Ok (law19_do [.p (some (.n B.rb, 0)), .agg (S.vs f a b c a' b' c'), .agg [.i .i64 7, .i .i64 n, .i .u64 wv]] J) (RDid J B X k m) := by
 have q0 : ((7 : Int) == 0) = false := rfl
 have q1 : ((7 : Int) == 1) = false := rfl
 have q2 : ((7 : Int) == 2) = false := rfl
 have q3 : ((7 : Int) == 3) = false := rfl
 have q4 : ((7 : Int) == 4) = false := rfl
 have q5 : ((7 : Int) == 5) = false := rfl
 have q6 : ((7 : Int) == 6) = false := rfl
 have q7 : ((7 : Int) == 7) = true := rfl
 have hsm := h.sm (by omega)
 simp (maxSteps := 2000000) -implicitDefEqProofs (disch := (first | omega | rfl | assumption | (simp only [rsD]; first | omega | assumption))) only [law19_do, law19_do_c, RS.vs, q0, q1, q2, q3, q4, q5, q6, q7, Nat.reduceAdd, Nat.reduceMul, Nat.reduceLT, Int.reduceToNat, Int.reduceAdd, Int.reduceSub, Int.reduceMul, rsU, rsC]
 generalize hJ : AH.put _ (J.next + 1 + 1) _ = J1
 obtain ⟨h1, k1, b0, b1, b2, n1⟩ := rboxes h hJ
 clear hJ
 refine Ok.step (rxset h1 (by omega) hn (x := wv)) fun r ⟨p1, p2, p3⟩ => ?_
 obtain ⟨q, J2⟩ := r
 simp only at p1 p2 p3
 subst p1
 have c0 : J2.blk J.next = _ := (p3.blk _ (by simp)).trans b0
 have c1 : J2.blk (J.next + 1) = _ := (p3.blk _ (by simp)).trans b1
 have c2 : J2.blk (J.next + 1 + 1) = _ := (p3.blk _ (by simp)).trans b2
 have n2 := p3.next
 simp (maxSteps := 2000000) -implicitDefEqProofs (disch := (first | omega | rfl | assumption | (simp only [rsD]; first | omega | assumption))) only [c0, c1, c2, Nat.reduceAdd, Nat.reduceMul, Nat.reduceLT, Int.reduceToNat, Int.reduceAdd, Int.reduceSub, Int.reduceMul, rsU, rsC]
 have doc := rrset_ok (J := J2) hsm hs hn (x := wv)
 simp only [RS.vs] at doc
 refine Ok.step doc fun r ⟨⟨v', g1, f', x, y, z, x', y', z', e', hst⟩, E3⟩ => ?_
 obtain ⟨q, J3⟩ := r
 simp only at g1 E3
 subst g1
 subst e'
 have d0 : J3.blk J.next = _ := (E3.blk _ (by omega)).trans c0
 have d1 : J3.blk (J.next + 1) = _ := (E3.blk _ (by omega)).trans c1
 have d2 : J3.blk (J.next + 1 + 1) = _ := (E3.blk _ (by omega)).trans c2
 have ec : ((S.set n wv).2 == (S.set n wv).2) = true := s_eqT rfl
 simp (maxSteps := 2000000) -implicitDefEqProofs (disch := (first | omega | rfl | assumption | (simp only [rsD]; first | omega | assumption))) only [HS.vs, d0, d1, d2, ec, RS.vs, Nat.reduceAdd, Nat.reduceMul, Nat.reduceLT, Int.reduceToNat, Int.reduceAdd, Int.reduceSub, Int.reduceMul, rsU, rsC]
 obtain ⟨f1, f2⟩ := fin19 h (J4 := (J3.put J.next (.cells true T_haymowref19_State (RS.vs (S.set n wv).1 f' x y z x' y' z'))).put (J.next + 1 + 1) (.cells true T_haymowref19_State (RS.vs (S.set n wv).1 f' x y z x' y' z'))) k1 p3 E3 p2 rfl fun b x1 x2 x3 => by simp -implicitDefEqProofs (disch := omega) only [s_bn, s_bs, s_kn, bump_blk]
 exact Ok_some.2 ⟨⟨(S.set n wv).1, f', x, y, z, x', y', z', rfl, hst, f1.le (by omega)⟩, f2⟩
end
end Go.Abs.Tryz
namespace Go.Abs.Tryz
open Go Go.Abs
variable {O : Type}
section
variable {J : AH O} {B : RtB} {S : RS} {X : List Nat} {k : Nat} {m : Int}
variable {f a b c a' b' c' : SA} (h : RX J B S X k m) (hk : k < 80) (hm : m <= 100000000) (hs : S.st f a b c a' b' c')
include h hk hm hs
theorem do_get {kd n wv : Int} (hn : -9223372036854775808 <= n /\ n <= 9223372036854775807) (q0 : (kd == 0) = false) (q1 : (kd == 1) = false) (q2 : (kd == 2) = false) (q3 : (kd == 3) = false) (q4 : (kd == 4) = false) (q5 : (kd == 5) = false) (q6 : (kd == 6) = false) (q7 : (kd == 7) = false) (q9 : (kd == 9) = false) (q10 : (kd == 10) = false) :
  Ok (law19_do [.p (some (.n B.rb, 0)), .agg (S.vs f a b c a' b' c'), .agg [.i .i64 kd, .i .i64 n, .i .u64 wv]] J) (RDid J B X k m) := by
 have hsm := h.sm (by omega)
 simp (maxSteps := 2000000) -implicitDefEqProofs (disch := (first | omega | rfl | assumption | (simp only [rsD]; first | omega | assumption))) only [law19_do, law19_do_c, RS.vs, q0, q1, q2, q3, q4, q5, q6, q7, q9, q10, Nat.reduceAdd, Nat.reduceMul, Nat.reduceLT, Int.reduceToNat, Int.reduceAdd, Int.reduceSub, Int.reduceMul, rsU, rsC]
 generalize hJ : AH.put _ (J.next + 1 + 1) _ = J1
 obtain ⟨h1, k1, b0, b1, b2, n1⟩ := rboxes h hJ
 clear hJ
 refine Ok.step (rxget h1 (by omega) hn) fun r ⟨p1, p2, p3⟩ => ?_
 obtain ⟨q, J2⟩ := r
 simp only at p1 p2 p3
 subst p1
 have c0 : J2.blk J.next = _ := (p3.blk _ (by simp)).trans b0
 have c1 : J2.blk (J.next + 1) = _ := (p3.blk _ (by simp)).trans b1
 have c2 : J2.blk (J.next + 1 + 1) = _ := (p3.blk _ (by simp)).trans b2
 have n2 := p3.next
 simp (maxSteps := 2000000) -implicitDefEqProofs (disch := (first | omega | rfl | assumption | (simp only [rsD]; first | omega | assumption))) only [c0, c1, c2, Nat.reduceAdd, Nat.reduceMul, Nat.reduceLT, Int.reduceToNat, Int.reduceAdd, Int.reduceSub, Int.reduceMul, rsU, rsC]
 have doc := rrget_ok (J := J2) hsm hs hn
 simp only [RS.vs] at doc
 refine Ok.step doc fun r ⟨g1, E3⟩ => ?_
 obtain ⟨q, J3⟩ := r
 simp only at g1 E3
 subst g1
 have d0 : J3.blk J.next = _ := (E3.blk _ (by omega)).trans c0
 have d1 : J3.blk (J.next + 1) = _ := (E3.blk _ (by omega)).trans c1
 have d2 : J3.blk (J.next + 1 + 1) = _ := (E3.blk _ (by omega)).trans c2
 have ec : ((S.get n).1 == (S.get n).1) = true := s_eqT rfl
 have ec2 : ((S.get n).2 == (S.get n).2) = true := s_eqT rfl
 simp (maxSteps := 2000000) -implicitDefEqProofs (disch := (first | omega | rfl | assumption | (simp only [rsD]; first | omega | assumption))) only [HS.vs, d0, d1, d2, ec, ec2, Nat.reduceAdd, Nat.reduceMul, Nat.reduceLT, Int.reduceToNat, Int.reduceAdd, Int.reduceSub, Int.reduceMul, rsU, rsC]
 obtain ⟨f1, f2⟩ := fin19 h (J4 := J3.put (J.next + 1 + 1) (.cells true T_haymowref19_State (RS.vs S f a b c a' b' c'))) k1 p3 E3 p2 rfl fun b x1 x2 x3 => by simp -implicitDefEqProofs (disch := omega) only [s_bn, s_bs, s_kn, bump_blk]
 exact Ok_some.2 ⟨⟨S, f, a, b, c, a', b', c', rfl, hs, f1.up.le (by omega)⟩, f2⟩
end
end Go.Abs.Tryz
namespace Go.Abs.Tryz
open Go Go.Abs
variable {O : Type}
section
variable {J : AH O} {B : RtB} {S : RS} {X : List Nat} {k : Nat} {m : Int}
variable {f a b c a' b' c' : SA} (h : RX J B S X k m) (hk : k < 80) (hm : m <= 100000000) (hs : S.st f a b c a' b' c')
include h hk hm hs
theorem do_push {n wv : Int} (hn : -9223372036854775808 <= n /\ n <= 9223372036854775807) :
  Ok (law19_do [.p (some (.n B.rb, 0)), .agg (S.vs f a b c a' b' c'), .agg [.i .i64 0, .i .i64 n, .i .u64 wv]] J) (RDid J B X k m) := by
 have q0 : ((0 : Int) == 0) = true := rfl
 have hsm := h.sm (by omega)
 simp (maxSteps := 2000000) -implicitDefEqProofs (disch := (first | omega | rfl | assumption | (simp only [rsD]; first | omega | assumption))) only [law19_do, law19_do_c, RS.vs, q0, Nat.reduceAdd, Nat.reduceMul, Nat.reduceLT, Int.reduceToNat, Int.reduceAdd, Int.reduceSub, Int.reduceMul, rsU, rsC]
 generalize hJ : AH.put _ (J.next + 1 + 1) _ = J1
 obtain ⟨h1, k1, b0, b1, b2, n1⟩ := rboxes h hJ
 clear hJ
 refine Ok.step (slots_push h1 hk hm hs hn) fun r ⟨⟨S2, f', x, y, z, x', y', z', p1, hst, p2⟩, p3⟩ => ?_
 obtain ⟨q, J2⟩ := r
 simp only at p1 p2 p3
 subst p1
 have c0 : J2.blk J.next = _ := (p3.blk _ (by simp)).trans b0
 have c1 : J2.blk (J.next + 1) = _ := (p3.blk _ (by simp)).trans b1
 have c2 : J2.blk (J.next + 1 + 1) = _ := (p3.blk _ (by simp)).trans b2
 have n2 := p3.next
 have E3 := Ext.refl J2
 simp (maxSteps := 2000000) -implicitDefEqProofs (disch := (first | omega | rfl | assumption | (simp only [rsD]; first | omega | assumption))) only [RS.vs, c0, c1, c2, Nat.reduceAdd, Nat.reduceMul, Nat.reduceLT, Int.reduceToNat, Int.reduceAdd, Int.reduceSub, Int.reduceMul, rsU, rsC]
 obtain ⟨f1, f2⟩ := fin19 h (J4 := J2.put (J.next + 1 + 1) (.cells true T_haymowref19_State (RS.vs S2 f' x y z x' y' z'))) k1 p3 E3 p2 rfl fun b x1 x2 x3 => by simp -implicitDefEqProofs (disch := omega) only [s_bn, s_bs, s_kn, bump_blk]
 exact Ok_some.2 ⟨⟨S2, f', x, y, z, x', y', z', rfl, hst, f1⟩, f2⟩
theorem do_pop {n wv : Int} :
  Ok (law19_do [.p (some (.n B.rb, 0)), .agg (S.vs f a b c a' b' c'), .agg [.i .i64 1, .i .i64 n, .i .u64 wv]] J) (RDid J B X k m) := by
 have q0 : ((1 : Int) == 0) = false := rfl
 have q1 : ((1 : Int) == 1) = true := rfl
 have hsm := h.sm (by omega)
 simp (maxSteps := 2000000) -implicitDefEqProofs (disch := (first | omega | rfl | assumption | (simp only [rsD]; first | omega | assumption))) only [law19_do, law19_do_c, RS.vs, q0, q1, Nat.reduceAdd, Nat.reduceMul, Nat.reduceLT, Int.reduceToNat, Int.reduceAdd, Int.reduceSub, Int.reduceMul, rsU, rsC]
 generalize hJ : AH.put _ (J.next + 1 + 1) _ = J1
 obtain ⟨h1, k1, b0, b1, b2, n1⟩ := rboxes h hJ
 clear hJ
 refine Ok.step (slots_pop h1 hk hm hs) fun r ⟨⟨S2, f', x, y, z, x', y', z', p1, hst, p2⟩, p3⟩ => ?_
 obtain ⟨q, J2⟩ := r
 simp only at p1 p2 p3
 subst p1
 have c0 : J2.blk J.next = _ := (p3.blk _ (by simp)).trans b0
 have c1 : J2.blk (J.next + 1) = _ := (p3.blk _ (by simp)).trans b1
 have c2 : J2.blk (J.next + 1 + 1) = _ := (p3.blk _ (by simp)).trans b2
 have n2 := p3.next
 have E3 := Ext.refl J2
 simp (maxSteps := 2000000) -implicitDefEqProofs (disch := (first | omega | rfl | assumption | (simp only [rsD]; first | omega | assumption))) only [RS.vs, c0, c1, c2, Nat.reduceAdd, Nat.reduceMul, Nat.reduceLT, Int.reduceToNat, Int.reduceAdd, Int.reduceSub, Int.reduceMul, rsU, rsC]
 obtain ⟨f1, f2⟩ := fin19 h (J4 := J2.put (J.next + 1 + 1) (.cells true T_haymowref19_State (RS.vs S2 f' x y z x' y' z'))) k1 p3 E3 p2 rfl fun b x1 x2 x3 => by simp -implicitDefEqProofs (disch := omega) only [s_bn, s_bs, s_kn, bump_blk]
 exact Ok_some.2 ⟨⟨S2, f', x, y, z, x', y', z', rfl, hst, f1⟩, f2⟩
end
end Go.Abs.Tryz
namespace Go.Abs.Tryz
open Go Go.Abs
variable {O : Type}
section
variable {J : AH O} {B : RtB} {S : RS} {X : List Nat} {k : Nat} {m : Int}
variable {f a b c a' b' c' : SA} (h : RX J B S X k m) (hk : k < 80) (hm : m <= 100000000) (hs : S.st f a b c a' b' c')
include h hk hm hs
theorem do_addw {n wv : Int} :
  Ok (law19_do [.p (some (.n B.rb, 0)), .agg (S.vs f a b c a' b' c'), .agg [.i .i64 4, .i .i64 n, .i .u64 wv]] J) (RDid J B X k m) := by
 have q0 : ((4 : Int) == 0) = false := rfl
 have q1 : ((4 : Int) == 1) = false := rfl
 have q2 : ((4 : Int) == 2) = false := rfl
 have q3 : ((4 : Int) == 3) = false := rfl
 have q4 : ((4 : Int) == 4) = true := rfl
 have hsm := h.sm (by omega)
 simp (maxSteps := 2000000) -implicitDefEqProofs (disch := (first | omega | rfl | assumption | (simp only [rsD]; first | omega | assumption))) only [law19_do, law19_do_c, RS.vs, q0, q1, q2, q3, q4, Nat.reduceAdd, Nat.reduceMul, Nat.reduceLT, Int.reduceToNat, Int.reduceAdd, Int.reduceSub, Int.reduceMul, rsU, rsC]
 generalize hJ : AH.put _ (J.next + 1 + 1) _ = J1
 obtain ⟨h1, k1, b0, b1, b2, n1⟩ := rboxes h hJ
 clear hJ
 refine Ok.step (weak_add h1 hk hm hs) fun r ⟨⟨S2, f', x, y, z, x', y', z', p1, hst, p2⟩, p3⟩ => ?_
 obtain ⟨q, J2⟩ := r
 simp only at p1 p2 p3
 subst p1
 have c0 : J2.blk J.next = _ := (p3.blk _ (by simp)).trans b0
 have c1 : J2.blk (J.next + 1) = _ := (p3.blk _ (by simp)).trans b1
 have c2 : J2.blk (J.next + 1 + 1) = _ := (p3.blk _ (by simp)).trans b2
 have n2 := p3.next
 have E3 := Ext.refl J2
 simp (maxSteps := 2000000) -implicitDefEqProofs (disch := (first | omega | rfl | assumption | (simp only [rsD]; first | omega | assumption))) only [RS.vs, c0, c1, c2, Nat.reduceAdd, Nat.reduceMul, Nat.reduceLT, Int.reduceToNat, Int.reduceAdd, Int.reduceSub, Int.reduceMul, rsU, rsC]
 obtain ⟨f1, f2⟩ := fin19 h (J4 := J2.put (J.next + 1 + 1) (.cells true T_haymowref19_State (RS.vs S2 f' x y z x' y' z'))) k1 p3 E3 p2 rfl fun b x1 x2 x3 => by simp -implicitDefEqProofs (disch := omega) only [s_bn, s_bs, s_kn, bump_blk]
 exact Ok_some.2 ⟨⟨S2, f', x, y, z, x', y', z', rfl, hst, f1⟩, f2⟩
theorem do_dropw {n wv : Int} (hn : -9223372036854775808 <= n /\ n <= 9223372036854775807) :
  Ok (law19_do [.p (some (.n B.rb, 0)), .agg (S.vs f a b c a' b' c'), .agg [.i .i64 5, .i .i64 n, .i .u64 wv]] J) (RDid J B X k m) := by
 have q0 : ((5 : Int) == 0) = false := rfl
 have q1 : ((5 : Int) == 1) = false := rfl
 have q2 : ((5 : Int) == 2) = false := rfl
 have q3 : ((5 : Int) == 3) = false := rfl
 have q4 : ((5 : Int) == 4) = false := rfl
 have q5 : ((5 : Int) == 5) = true := rfl
 have hsm := h.sm (by omega)
 simp (maxSteps := 2000000) -implicitDefEqProofs (disch := (first | omega | rfl | assumption | (simp only [rsD]; first | omega | assumption))) only [law19_do, law19_do_c, RS.vs, q0, q1, q2, q3, q4, q5, Nat.reduceAdd, Nat.reduceMul, Nat.reduceLT, Int.reduceToNat, Int.reduceAdd, Int.reduceSub, Int.reduceMul, rsU, rsC]
 generalize hJ : AH.put _ (J.next + 1 + 1) _ = J1
 obtain ⟨h1, k1, b0, b1, b2, n1⟩ := rboxes h hJ
 clear hJ
 refine Ok.step (weak_drop h1 hk hm hs hn) fun r ⟨⟨S2, f', x, y, z, x', y', z', p1, hst, p2⟩, p3⟩ => ?_
 obtain ⟨q, J2⟩ := r
 simp only at p1 p2 p3
 subst p1
 have c0 : J2.blk J.next = _ := (p3.blk _ (by simp)).trans b0
 have c1 : J2.blk (J.next + 1) = _ := (p3.blk _ (by simp)).trans b1
 have c2 : J2.blk (J.next + 1 + 1) = _ := (p3.blk _ (by simp)).trans b2
 have n2 := p3.next
 have E3 := Ext.refl J2
 simp (maxSteps := 2000000) -implicitDefEqProofs (disch := (first | omega | rfl | assumption | (simp only [rsD]; first | omega | assumption))) only [RS.vs, c0, c1, c2, Nat.reduceAdd, Nat.reduceMul, Nat.reduceLT, Int.reduceToNat, Int.reduceAdd, Int.reduceSub, Int.reduceMul, rsU, rsC]
 obtain ⟨f1, f2⟩ := fin19 h (J4 := J2.put (J.next + 1 + 1) (.cells true T_haymowref19_State (RS.vs S2 f' x y z x' y' z'))) k1 p3 E3 p2 rfl fun b x1 x2 x3 => by simp -implicitDefEqProofs (disch := omega) only [s_bn, s_bs, s_kn, bump_blk]
 exact Ok_some.2 ⟨⟨S2, f', x, y, z, x', y', z', rfl, hst, f1⟩, f2⟩
theorem do_weak {n wv : Int} (hn : -9223372036854775808 <= n /\ n <= 9223372036854775807) :
  Ok (law19_do [.p (some (.n B.rb, 0)), .agg (S.vs f a b c a' b' c'), .agg [.i .i64 6, .i .i64 n, .i .u64 wv]] J) (RDid J B X k m) := by
 have q0 : ((6 : Int) == 0) = false := rfl
 have q1 : ((6 : Int) == 1) = false := rfl
 have q2 : ((6 : Int) == 2) = false := rfl
 have q3 : ((6 : Int) == 3) = false := rfl
 have q4 : ((6 : Int) == 4) = false := rfl
 have q5 : ((6 : Int) == 5) = false := rfl
 have q6 : ((6 : Int) == 6) = true := rfl
 have hsm := h.sm (by omega)
 simp (maxSteps := 2000000) -implicitDefEqProofs (disch := (first | omega | rfl | assumption | (simp only [rsD]; first | omega | assumption))) only [law19_do, law19_do_c, RS.vs, q0, q1, q2, q3, q4, q5, q6, Nat.reduceAdd, Nat.reduceMul, Nat.reduceLT, Int.reduceToNat, Int.reduceAdd, Int.reduceSub, Int.reduceMul, rsU, rsC]
 generalize hJ : AH.put _ (J.next + 1 + 1) _ = J1
 obtain ⟨h1, k1, b0, b1, b2, n1⟩ := rboxes h hJ
 clear hJ
 refine Ok.step (weak_get h1 hk hm hs hn) fun r ⟨⟨S2, f', x, y, z, x', y', z', p1, hst, p2⟩, p3⟩ => ?_
 obtain ⟨q, J2⟩ := r
 simp only at p1 p2 p3
 subst p1
 have c0 : J2.blk J.next = _ := (p3.blk _ (by simp)).trans b0
 have c1 : J2.blk (J.next + 1) = _ := (p3.blk _ (by simp)).trans b1
 have c2 : J2.blk (J.next + 1 + 1) = _ := (p3.blk _ (by simp)).trans b2
 have n2 := p3.next
 have E3 := Ext.refl J2
 simp (maxSteps := 2000000) -implicitDefEqProofs (disch := (first | omega | rfl | assumption | (simp only [rsD]; first | omega | assumption))) only [RS.vs, c0, c1, c2, Nat.reduceAdd, Nat.reduceMul, Nat.reduceLT, Int.reduceToNat, Int.reduceAdd, Int.reduceSub, Int.reduceMul, rsU, rsC]
 obtain ⟨f1, f2⟩ := fin19 h (J4 := J2.put (J.next + 1 + 1) (.cells true T_haymowref19_State (RS.vs S2 f' x y z x' y' z'))) k1 p3 E3 p2 rfl fun b x1 x2 x3 => by simp -implicitDefEqProofs (disch := omega) only [s_bn, s_bs, s_kn, bump_blk]
 exact Ok_some.2 ⟨⟨S2, f', x, y, z, x', y', z', rfl, hst, f1⟩, f2⟩
end
end Go.Abs.Tryz
namespace Go.Abs.Tryz
open Go Go.Abs
variable {O : Type}
theorem same05_ok {J : AH O} {a b : SA} {l : List Int} (ha : Rd J 1 a l.length (l.map (AV.i .u64))) (hb : Rd J 1 b l.length (l.map (AV.i .u64))) (hl : l.length <= 100000) : Ok (haymowref05_Same [.sl a l.length, .sl b l.length] J) fun r => r = (.b true, J) := by
 have q0 : ((l.length : Int) == (l.length : Int)) = true := by simp
 simp (maxSteps := 2000000) -implicitDefEqProofs (disch := (first | omega | rfl | assumption | (simp only [rsD]; first | omega | assumption))) only [haymowref05_Same, haymowref05_Same_c, q0, Nat.reduceAdd, Nat.reduceMul, Nat.reduceLT, Int.reduceToNat, Int.reduceAdd, Int.reduceSub, Int.reduceMul, rsU, rsC]
 refine Ok.bindS (Q := fun r => r = .inl ([], J)) ?_ ?_ (fun r h => by cases h)
 ·refine Ok.count l.length (fun k s => s = ([.i .i64 (k : Int)], J)) ?_ ?_ rfl
  ·rintro k s hk rfl
   have hx : (l.map (AV.i .u64))[k]? = some (.i .u64 l[k]) := by simp [hk]
   generalize l[k] = x at hx
   obtain ⟨b1, o1, e1, l1⟩ := ha.at1 hx
   obtain ⟨b2, o2, e2, l2⟩ := hb.at1 hx
   have r1 : SA.ref a = some (b1, o1) := by rw [e1]; rfl
   have r2 : SA.ref b = some (b2, o2) := by rw [e2]; rfl
   have q1 : (x == x) = true := beq_self_eq_true x
   rw [Nat.mul_one] at l1 l2
   simp (maxSteps := 2000000) -implicitDefEqProofs (disch := (first | omega | rfl | assumption | (simp only [rsD]; first | omega | assumption))) only [haymowref05_Same_L1, r1, r2, l1, l2, q1, Nat.mul_one, Nat.reduceAdd, Nat.reduceMul, Nat.reduceLT, Int.reduceToNat, Int.reduceAdd, Int.reduceSub, Int.reduceMul, rsU, rsC]
   exact Ok_some.2 (by simp)
  ·rintro s rfl
   simp (maxSteps := 2000000) -implicitDefEqProofs (disch := (first | omega | rfl | assumption | (simp only [rsD]; first | omega | assumption))) only [haymowref05_Same_L1, Nat.reduceAdd, Nat.reduceMul, Nat.reduceLT, Int.reduceToNat, Int.reduceAdd, Int.reduceSub, Int.reduceMul, rsU, rsC]
   exact Ok_some.2 rfl
 ·rintro _ h
  cases h
  exact Ok_some.2 rfl
theorem RS.filled_le {S : RS} (hs : RSm S) : S.filled.length <= 50000 := by
 have h1 := flat_le S.L hs.f.l
 have h2 := hs.f.n
 have h3 := nz_le S.L.flatten
 have h4 : S.G.filled.length <= 1000 := by
  refine Nat.le_trans (List.length_filter_le _ _) ?_
  simp; exact hs.g
 unfold RS.filled
 rw [List.length_append]
 omega
theorem RX.sub {J : AH O} {B : RtB} {S : RS} {X Y : List Nat} {k : Nat} {m : Int} (h : RX J B S X k m) (hY : ∀ b ∈ Y, b ∈ X) : RX J B S Y k m :=
 h.turn (L := []) (Ext.refl J).chg (by simp) fun b hb => .inl (hY b hb)
end Go.Abs.Tryz
namespace Go.Abs.Tryz
open Go Go.Abs
variable {O : Type}
section
variable {J : AH O} {B : RtB} {S : RS} {X : List Nat} {k : Nat} {m : Int}
variable {f a b c a' b' c' : SA} (h : RX J B S X k m) (hk : k < 80) (hm : m <= 100000000 - 300000) (hs : S.st f a b c a' b' c')
include h hk hm hs
theorem turn_all {n wv : Int} :
  Ok (law19_turn [.p (some (.n B.rb, 0)), .agg (S.vs f a b c a' b' c'), .agg [.i .i64 9, .i .i64 n, .i .u64 wv]] J) (RDid J B X k m) := by
 have q9 : ((9 : Int) == 9) = true := rfl
 have hsm := h.sm (by omega)
 simp (maxSteps := 2000000) -implicitDefEqProofs (disch := (first | omega | rfl | assumption | (simp only [rsD]; first | omega | assumption))) only [law19_turn, law19_turn_c, RS.vs, q9, Nat.reduceAdd, Nat.reduceMul, Nat.reduceLT, Int.reduceToNat, Int.reduceAdd, Int.reduceSub, Int.reduceMul, rsU, rsC]
 generalize hJ : (((J.bump 3).put J.next _).put (J.next + 1) _).put (J.next + 1 + 1) _ = J1
 obtain ⟨h1, k1, b0, b1, b2, n1⟩ := rboxes h hJ
 clear hJ
 generalize hJ : AH.put _ (J.next + 3) _ = J2
 have E2 : Ext J1 J2 := by rw [<- hJ]; exact ((Ext.refl J1).bump 1).put (by omega) _
 have n2 : J2.next = J.next + 4 := by rw [<- hJ]; simp; omega
 have b3 : J2.blk (J.next + 3) = some (.cells true 70 [.sl .nil 0]) := by rw [<- hJ]; exact s_bs
 clear hJ
 have c0 : J2.blk J.next = _ := (E2.blk _ (by omega)).trans b0
 have c1 : J2.blk (J.next + 1) = _ := (E2.blk _ (by omega)).trans b1
 have c2 : J2.blk (J.next + 1 + 1) = _ := (E2.blk _ (by omega)).trans b2
 have hX : ∀ q ∈ X, q < J.next := h.lX
 have h2 : RX J2 B S ((J.next + 3) :: (J.next :: (J.next + 1) :: (J.next + 1 + 1) :: X)) k m := h1.turn (L := []) E2.chg (by simp) fun q hq => by
  rcases List.mem_cons.1 hq with rfl | hq
  ·exact .inr (by omega)
  ·exact .inl hq
 have nK : (J.next + 3) ∉ (J.next :: (J.next + 1) :: (J.next + 1 + 1) :: X) := fun hmm => by
  simp only [List.mem_cons] at hmm
  rcases hmm with e | e | e | e
  ·omega
  ·omega
  ·omega
  ·have := hX _ e; omega
 refine Ok.step (rxturn h2 (by omega) hk nK b3 (ob := J.next + 1) (by simp) c1) fun r ⟨g1, a3, d3, w3, x3, h3, kp⟩ => ?_
 obtain ⟨q, J3⟩ := r
 simp only at g1 d3 w3 h3 kp
 subst g1
 have l3 := h3.lX
 have n3 := kp.next
 have q0 : J3.blk J.next = _ := (kp.blk _ (by simp)).trans c0
 have q1 : J3.blk (J.next + 1) = _ := (kp.blk _ (by simp)).trans c1
 have q2 : J3.blk (J.next + 1 + 1) = _ := (kp.blk _ (by simp)).trans c2
 have l33 := l3 (J.next + 3) (by simp)
 simp (maxSteps := 2000000) -implicitDefEqProofs (disch := (first | omega | rfl | assumption | (simp only [rsD]; first | omega | assumption))) only [q0, q1, d3, Nat.reduceAdd, Nat.reduceMul, Nat.reduceLT, Int.reduceToNat, Int.reduceAdd, Int.reduceSub, Int.reduceMul, rsU, rsC]
 have more := rrmore_ok (J := J3) hsm hs (x := wv)
 simp only [RS.vs] at more
 refine Ok.step more fun r ⟨⟨f', x, y, z, x', y', z', e', hst⟩, E5⟩ => ?_
 obtain ⟨q, J5⟩ := r
 simp only at e' E5
 subst e'
 have n5 := E5.next
 have r0 : J5.blk J.next = _ := (E5.blk _ (by omega)).trans q0
 have r2 : J5.blk (J.next + 1 + 1) = _ := (E5.blk _ (by omega)).trans q2
 have r3 : J5.blk (J.next + 3) = _ := (E5.blk _ (by omega)).trans d3
 simp (maxSteps := 2000000) -implicitDefEqProofs (disch := (first | omega | rfl | assumption | (simp only [rsD]; first | omega | assumption))) only [RS.vs, r0, r3, Nat.reduceAdd, Nat.reduceMul, Nat.reduceLT, Int.reduceToNat, Int.reduceAdd, Int.reduceSub, Int.reduceMul, rsU, rsC]
 have filled := rrfilled_ok (J := J5) hsm hs
 simp only [RS.vs] at filled
 refine Ok.step filled fun r ⟨⟨d, g9, hd⟩, E6⟩ => ?_
 obtain ⟨q, J6⟩ := r
 simp only at g9 E6
 subst g9
 have n6 := E6.next
 have s0 : J6.blk J.next = _ := (E6.blk _ (by omega)).trans r0
 have s2 : J6.blk (J.next + 1 + 1) = _ := (E6.blk _ (by omega)).trans r2
 have s3 : J6.blk (J.next + 3) = _ := (E6.blk _ (by omega)).trans r3
 have E46 := E5.trans E6
 have hlen : S.filled.length <= 50000 := RS.filled_le hsm
 simp (maxSteps := 2000000) -implicitDefEqProofs (disch := (first | omega | rfl | assumption | (simp only [rsD]; first | omega | assumption))) only [HS.vs, RS.vs, s0, s2, s3, Nat.reduceAdd, Nat.reduceMul, Nat.reduceLT, Int.reduceToNat, Int.reduceAdd, Int.reduceSub, Int.reduceMul, rsU, rsC]
 have own6 : OwnS J6 T_uint64 1 a3 S.filled.length (S.filled.map (AV.i .u64)) := w3.of E46.next fun q hq => E46.blk q (w3.lt q hq)
 refine Ok.step (same05_ok (J := J6) own6.rd (hd O J6) (by omega)) fun r e => ?_
 subst e
 simp (maxSteps := 2000000) -implicitDefEqProofs (disch := (first | omega | rfl | assumption | (simp only [rsD]; first | omega | assumption))) only [s0, s2, Nat.reduceAdd, Nat.reduceMul, Nat.reduceLT, Int.reduceToNat, Int.reduceAdd, Int.reduceSub, Int.reduceMul, rsU, rsC]
 obtain ⟨f1, f2⟩ := fin19 h (J4 := J6.put (J.next + 1 + 1) (.cells true T_haymowref19_State (RS.vs (S.more wv) f' x y z x' y' z'))) k1 (J2 := J3) (J3 := J6) ⟨by have := E2.next; omega, fun q hq => by
  rw [kp.blk q hq]; exact E2.blk q (by
   simp only [List.mem_cons] at hq
   rcases hq with e | e | e | e
   ·omega
   ·omega
   ·omega
   ·have := hX _ e; omega)⟩ E46 (h3.sub fun q hq => by simp only [List.mem_cons, List.mem_append] at hq ⊢; simp only [hq, or_true]) rfl fun q x1 x2 x3 => by simp -implicitDefEqProofs (disch := omega) only [s_bn, s_bs, s_kn, bump_blk]
 exact Ok_some.2 ⟨⟨S.more wv, f', x, y, z, x', y', z', rfl, hst, f1.le (by omega)⟩, f2⟩
end
end Go.Abs.Tryz
namespace Go.Abs.Tryz
open Go Go.Abs
variable {O : Type}
section
variable {J : AH O} {B : RtB} {S : RS} {X : List Nat} {k : Nat} {m : Int}
variable {f a b c a' b' c' : SA} (h : RX J B S X k m) (hk : k < 80) (hm : m <= 100000000 - 300000) (hs : S.st f a b c a' b' c')
include h hk hm hs
theorem turn_weak {n wv : Int} :
  Ok (law19_turn [.p (some (.n B.rb, 0)), .agg (S.vs f a b c a' b' c'), .agg [.i .i64 10, .i .i64 n, .i .u64 wv]] J) (RDid J B X k m) := by
 have q9 : ((10 : Int) == 9) = false := rfl
 have hsm := h.sm (by omega)
 simp (maxSteps := 2000000) -implicitDefEqProofs (disch := (first | omega | rfl | assumption | (simp only [rsD]; first | omega | assumption))) only [law19_turn, law19_turn_c, RS.vs, q9, Nat.reduceAdd, Nat.reduceMul, Nat.reduceLT, Int.reduceToNat, Int.reduceAdd, Int.reduceSub, Int.reduceMul, rsU, rsC]
 generalize hJ : (((J.bump 3).put J.next _).put (J.next + 1) _).put (J.next + 1 + 1) _ = J1
 obtain ⟨h1, k1, b0, b1, b2, n1⟩ := rboxes h hJ
 clear hJ
 generalize hJ : AH.put _ (J.next + 3) _ = J2
 have E2 : Ext J1 J2 := by rw [<- hJ]; exact ((Ext.refl J1).bump 1).put (by omega) _
 have n2 : J2.next = J.next + 4 := by rw [<- hJ]; simp; omega
 have b3 : J2.blk (J.next + 3) = some (.cells true 70 [.sl .nil 0]) := by rw [<- hJ]; exact s_bs
 clear hJ
 have c0 : J2.blk J.next = _ := (E2.blk _ (by omega)).trans b0
 have c1 : J2.blk (J.next + 1) = _ := (E2.blk _ (by omega)).trans b1
 have c2 : J2.blk (J.next + 1 + 1) = _ := (E2.blk _ (by omega)).trans b2
 have hX : ∀ q ∈ X, q < J.next := h.lX
 have h2 : RX J2 B S ((J.next + 3) :: (J.next :: (J.next + 1) :: (J.next + 1 + 1) :: X)) k m := h1.turn (L := []) E2.chg (by simp) fun q hq => by
  rcases List.mem_cons.1 hq with rfl | hq
  ·exact .inr (by omega)
  ·exact .inl hq
 have nK : (J.next + 3) ∉ (J.next :: (J.next + 1) :: (J.next + 1 + 1) :: X) := fun hmm => by
  simp only [List.mem_cons] at hmm
  rcases hmm with e | e | e | e
  ·omega
  ·omega
  ·omega
  ·have := hX _ e; omega
 refine Ok.step (rxturnw h2 (by omega) hk nK b3 (ob := J.next + 1) (by simp) c1) fun r ⟨g1, a3, d3, w3, x3, h3, kp⟩ => ?_
 obtain ⟨q, J3⟩ := r
 simp only at g1 d3 w3 h3 kp
 subst g1
 have l3 := h3.lX
 have n3 := kp.next
 have q0 : J3.blk J.next = _ := (kp.blk _ (by simp)).trans c0
 have q1 : J3.blk (J.next + 1) = _ := (kp.blk _ (by simp)).trans c1
 have q2 : J3.blk (J.next + 1 + 1) = _ := (kp.blk _ (by simp)).trans c2
 have l33 := l3 (J.next + 3) (by simp)
 simp (maxSteps := 2000000) -implicitDefEqProofs (disch := (first | omega | rfl | assumption | (simp only [rsD]; first | omega | assumption))) only [q0, q1, d3, Nat.reduceAdd, Nat.reduceMul, Nat.reduceLT, Int.reduceToNat, Int.reduceAdd, Int.reduceSub, Int.reduceMul, rsU, rsC]
 have filled := rhfilled_ok (J := J3) hs.k hsm.k
 simp only [HS.vs] at filled
 refine Ok.step filled fun r ⟨⟨d, g9, hd⟩, E5⟩ => ?_
 obtain ⟨q, J5⟩ := r
 simp only at g9 E5
 subst g9
 have n5 := E5.next
 have r0 : J5.blk J.next = _ := (E5.blk _ (by omega)).trans q0
 have r1 : J5.blk (J.next + 1) = _ := (E5.blk _ (by omega)).trans q1
 have r2 : J5.blk (J.next + 1 + 1) = _ := (E5.blk _ (by omega)).trans q2
 have r3 : J5.blk (J.next + 3) = _ := (E5.blk _ (by omega)).trans d3
 simp (maxSteps := 2000000) -implicitDefEqProofs (disch := (first | omega | rfl | assumption | (simp only [rsD]; first | omega | assumption))) only [RS.vs, r0, r1, r3, Nat.reduceAdd, Nat.reduceMul, Nat.reduceLT, Int.reduceToNat, Int.reduceAdd, Int.reduceSub, Int.reduceMul, rsU, rsC]
 have more := rhmore_ok (J := J5) hs.k hsm.k (x := wv)
 simp only [HS.vs] at more
 refine Ok.step more fun r ⟨⟨x, y, z, e', hst⟩, E6⟩ => ?_
 obtain ⟨q, J6⟩ := r
 simp only at e' E6
 subst e'
 have n6 := E6.next
 have s0 : J6.blk J.next = _ := (E6.blk _ (by omega)).trans r0
 have s2 : J6.blk (J.next + 1 + 1) = _ := (E6.blk _ (by omega)).trans r2
 have s3 : J6.blk (J.next + 3) = _ := (E6.blk _ (by omega)).trans r3
 have E46 := E5.trans E6
 have hlen : S.K.filled.length <= 50000 := by
  have h4 : S.K.filled.length <= 1000 := by
   refine Nat.le_trans (List.length_filter_le _ _) ?_
   simp; exact hsm.k
  omega
 simp (maxSteps := 2000000) -implicitDefEqProofs (disch := (first | omega | rfl | assumption | (simp only [rsD]; first | omega | assumption))) only [HS.vs, RS.vs, s0, s2, s3, Nat.reduceAdd, Nat.reduceMul, Nat.reduceLT, Int.reduceToNat, Int.reduceAdd, Int.reduceSub, Int.reduceMul, rsU, rsC]
 generalize hJ : AH.put J6 J.next _ = J7
 have n7 : J7.next = J6.next := by rw [<- hJ]; rfl
 have o7 : ∀ q, q ≠ J.next -> J7.blk q = J6.blk q := fun q hq => by rw [<- hJ]; exact s_bn hq
 have t0 : J7.blk J.next = some (.cells true T_haymowref19_State (RS.vs { S with K := S.K.more wv } f a b c x y z)) := by rw [<- hJ]; exact s_bs
 simp only [RS.vs] at t0
 clear hJ
 have t2 := (o7 (J.next + 1 + 1) (by omega)).trans s2
 have own7 : OwnS J7 T_uint64 1 a3 S.K.filled.length (S.K.filled.map (AV.i .u64)) := w3.of (by have := E46.next; omega) fun q hq => by
  have := (x3 q hq).2
  rw [o7 q (fun e => this (by simp [e]))]
  exact E46.blk q (w3.lt q hq)
 refine Ok.step (same05_ok (J := J7) own7.rd (hd O J7) (by omega)) fun r e => ?_
 subst e
 simp (maxSteps := 2000000) -implicitDefEqProofs (disch := (first | omega | rfl | assumption | (simp only [rsD]; first | omega | assumption))) only [t0, t2, Nat.reduceAdd, Nat.reduceMul, Nat.reduceLT, Int.reduceToNat, Int.reduceAdd, Int.reduceSub, Int.reduceMul, rsU, rsC]
 obtain ⟨f1, f2⟩ := fin19 h (J4 := J7.put (J.next + 1 + 1) (.cells true T_haymowref19_State (RS.vs { S with K := S.K.more wv } f a b c x y z))) k1 (J2 := J3) (J3 := J6) ⟨by have := E2.next; omega, fun q hq => by
  rw [kp.blk q hq]; exact E2.blk q (by
   simp only [List.mem_cons] at hq
   rcases hq with e | e | e | e
   ·omega
   ·omega
   ·omega
   ·have := hX _ e; omega)⟩ E46 (h3.sub fun q hq => by simp only [List.mem_cons, List.mem_append] at hq ⊢; simp only [hq, or_true]) n7 fun q x1 x2 x3 => by
  rw [s_bn x3]; exact o7 q x1
 exact Ok_some.2 ⟨⟨{ S with K := S.K.more wv }, f, a, b, c, x, y, z, rfl, ⟨hs.f, hs.g, hst⟩, f1.le (by omega)⟩, f2⟩
end
end Go.Abs.Tryz
namespace Go.Abs.Tryz
open Go Go.Abs
variable {O : Type}
section
variable {J : AH O} {B : RtB} {S : RS} {X : List Nat} {k : Nat} {m : Int}
variable {f a b c a' b' c' : SA} (h : RX J B S X k m) (hk : k < 80) (hm : m <= 100000000 - 300000) (hs : S.st f a b c a' b' c')
include h hk hm hs
theorem do_turn {n wv : Int} :
  Ok (law19_do [.p (some (.n B.rb, 0)), .agg (S.vs f a b c a' b' c'), .agg [.i .i64 9, .i .i64 n, .i .u64 wv]] J) (RDid J B X k m) := by
 have q0 : ((9 : Int) == 0) = false := rfl
 have q1 : ((9 : Int) == 1) = false := rfl
 have q2 : ((9 : Int) == 2) = false := rfl
 have q3 : ((9 : Int) == 3) = false := rfl
 have q4 : ((9 : Int) == 4) = false := rfl
 have q5 : ((9 : Int) == 5) = false := rfl
 have q6 : ((9 : Int) == 6) = false := rfl
 have q7 : ((9 : Int) == 7) = false := rfl
 have q9 : ((9 : Int) == 9) = true := rfl
 have hsm := h.sm (by omega)
 simp (maxSteps := 2000000) -implicitDefEqProofs (disch := (first | omega | rfl | assumption | (simp only [rsD]; first | omega | assumption))) only [law19_do, law19_do_c, RS.vs, q0, q1, q2, q3, q4, q5, q6, q7, q9, Nat.reduceAdd, Nat.reduceMul, Nat.reduceLT, Int.reduceToNat, Int.reduceAdd, Int.reduceSub, Int.reduceMul, rsU, rsC]
 generalize hJ : AH.put _ (J.next + 1 + 1) _ = J1
 obtain ⟨h1, k1, b0, b1, b2, n1⟩ := rboxes h hJ
 clear hJ
 refine Ok.step (turn_all h1 hk hm hs) fun r ⟨⟨S2, f', x, y, z, x', y', z', p1, hst, p2⟩, p3⟩ => ?_
 obtain ⟨q, J2⟩ := r
 simp only at p1 p2 p3
 subst p1
 have c0 : J2.blk J.next = _ := (p3.blk _ (by simp)).trans b0
 have c1 : J2.blk (J.next + 1) = _ := (p3.blk _ (by simp)).trans b1
 have c2 : J2.blk (J.next + 1 + 1) = _ := (p3.blk _ (by simp)).trans b2
 have n2 := p3.next
 have E3 := Ext.refl J2
 simp (maxSteps := 2000000) -implicitDefEqProofs (disch := (first | omega | rfl | assumption | (simp only [rsD]; first | omega | assumption))) only [RS.vs, c0, c1, c2, Nat.reduceAdd, Nat.reduceMul, Nat.reduceLT, Int.reduceToNat, Int.reduceAdd, Int.reduceSub, Int.reduceMul, rsU, rsC]
 obtain ⟨f1, f2⟩ := fin19 h (J4 := J2.put (J.next + 1 + 1) (.cells true T_haymowref19_State (RS.vs S2 f' x y z x' y' z'))) k1 p3 E3 p2 rfl fun b x1 x2 x3 => by simp -implicitDefEqProofs (disch := omega) only [s_bn, s_bs, s_kn, bump_blk]
 exact Ok_some.2 ⟨⟨S2, f', x, y, z, x', y', z', rfl, hst, f1⟩, f2⟩
theorem do_turnw {n wv : Int} :
  Ok (law19_do [.p (some (.n B.rb, 0)), .agg (S.vs f a b c a' b' c'), .agg [.i .i64 10, .i .i64 n, .i .u64 wv]] J) (RDid J B X k m) := by
 have q0 : ((10 : Int) == 0) = false := rfl
 have q1 : ((10 : Int) == 1) = false := rfl
 have q2 : ((10 : Int) == 2) = false := rfl
 have q3 : ((10 : Int) == 3) = false := rfl
 have q4 : ((10 : Int) == 4) = false := rfl
 have q5 : ((10 : Int) == 5) = false := rfl
 have q6 : ((10 : Int) == 6) = false := rfl
 have q7 : ((10 : Int) == 7) = false := rfl
 have q9 : ((10 : Int) == 9) = false := rfl
 have q10 : ((10 : Int) == 10) = true := rfl
 have hsm := h.sm (by omega)
 simp (maxSteps := 2000000) -implicitDefEqProofs (disch := (first | omega | rfl | assumption | (simp only [rsD]; first | omega | assumption))) only [law19_do, law19_do_c, RS.vs, q0, q1, q2, q3, q4, q5, q6, q7, q9, q10, Nat.reduceAdd, Nat.reduceMul, Nat.reduceLT, Int.reduceToNat, Int.reduceAdd, Int.reduceSub, Int.reduceMul, rsU, rsC]
 generalize hJ : AH.put _ (J.next + 1 + 1) _ = J1
 obtain ⟨h1, k1, b0, b1, b2, n1⟩ := rboxes h hJ
 clear hJ
 refine Ok.step (turn_weak h1 hk hm hs) fun r ⟨⟨S2, f', x, y, z, x', y', z', p1, hst, p2⟩, p3⟩ => ?_
 obtain ⟨q, J2⟩ := r
 simp only at p1 p2 p3
 subst p1
 have c0 : J2.blk J.next = _ := (p3.blk _ (by simp)).trans b0
 have c1 : J2.blk (J.next + 1) = _ := (p3.blk _ (by simp)).trans b1
 have c2 : J2.blk (J.next + 1 + 1) = _ := (p3.blk _ (by simp)).trans b2
 have n2 := p3.next
 have E3 := Ext.refl J2
 simp (maxSteps := 2000000) -implicitDefEqProofs (disch := (first | omega | rfl | assumption | (simp only [rsD]; first | omega | assumption))) only [RS.vs, c0, c1, c2, Nat.reduceAdd, Nat.reduceMul, Nat.reduceLT, Int.reduceToNat, Int.reduceAdd, Int.reduceSub, Int.reduceMul, rsU, rsC]
 obtain ⟨f1, f2⟩ := fin19 h (J4 := J2.put (J.next + 1 + 1) (.cells true T_haymowref19_State (RS.vs S2 f' x y z x' y' z'))) k1 p3 E3 p2 rfl fun b x1 x2 x3 => by simp -implicitDefEqProofs (disch := omega) only [s_bn, s_bs, s_kn, bump_blk]
 exact Ok_some.2 ⟨⟨S2, f', x, y, z, x', y', z', rfl, hst, f1⟩, f2⟩
end
end Go.Abs.Tryz
namespace Go.Abs.Tryz
open Go Go.Abs
variable {O : Type}
def r64 (t : Int) : Prop := -9223372036854775808 <= t /\ t <= 9223372036854775807
structure ROp where
 kind : Int
 n : Int
 w : Int
def ROp.cells (o : ROp) : List AV := [.i .i64 o.kind, .i .i64 o.n, .i .u64 o.w]
theorem ROp.len (o : ROp) : o.cells.length = 3 := rfl
theorem RX.global {J : AH O} {B : RtB} {S : RS} {X : List Nat} {k : Nat} {m : Int} (h : RX J B S X k m) (hk : k <= 80) {j : Nat} (hj : j < S.G.L.length) : ∃ t x, S.G.L[j]? = some (t, x) /\ S.get t = (x, 0) /\ r64 t := by
 obtain ⟨M, F, wF, P, C, w, P2, C2, w2, g1, g2, g3, g4, g5, g6, g7, g8, g9, g10⟩ := h.it
 have hll := g3.ll
 have hc := List.getElem?_eq_getElem (show j < C.length by omega)
 generalize C[j] = i at hc
 obtain ⟨g, x, k1, k2⟩ := g3.at_ j i hc
 obtain ⟨d, y, _, e1, e2, e3⟩ := g3.yes g1.g k2
 cases e3
 have hi := vw_len k2
 have he := g5.e
 have hg := g5.g _ _ _ _ k2
 have hv : (S.G.L.getD d (0, 0)).2 = x := by rw [List.getD_eq_getElem?_getD, e2]; rfl
 have h0 : tok i g >= 0 := by unfold tok; omega
 refine ⟨tok i g, x, k1, ?_, ?_⟩
 ·unfold RS.get
  rw [if_pos h0, e1]
  simp only [hv]
 ·unfold r64 tok; omega
section
variable {J : AH O} {B : RtB} {S : RS} {wb k : Nat} {f a b c a' b' c' : SA}
theorem rdo_ok {X : List Nat} {m : Int} (h : RX J B S X k m) (hk : k < 80) (hm : m <= 100000000 - 300000) (hs : S.st f a b c a' b' c') {o : ROp} (ho : r64 o.n) :
  Ok (law19_do [.p (some (.n B.rb, 0)), .agg (S.vs f a b c a' b' c'), .agg o.cells] J) (RDid J B X k m) := by
 obtain ⟨kd, n, wv⟩ := o
 have hm' : m <= 100000000 := by omega
 by_cases c0 : kd = 0
 ·subst c0; exact do_push h hk hm' hs ho
 by_cases c1 : kd = 1
 ·subst c1; exact do_pop h hk hm' hs
 by_cases c2 : kd = 2
 ·subst c2; exact do_add h hk hm' hs
 by_cases c3 : kd = 3
 ·subst c3; exact do_drop h hk hm' hs ho
 by_cases c4 : kd = 4
 ·subst c4; exact do_addw h hk hm' hs
 by_cases c5 : kd = 5
 ·subst c5; exact do_dropw h hk hm' hs ho
 by_cases c6 : kd = 6
 ·subst c6; exact do_weak h hk hm' hs ho
 by_cases c7 : kd = 7
 ·subst c7; exact do_set h hk hm' hs ho
 by_cases c9 : kd = 9
 ·subst c9; exact do_turn h hk hm hs
 by_cases c10 : kd = 10
 ·subst c10; exact do_turnw h hk hm hs
 exact do_get h hk hm' hs ho (s_eqF c0) (s_eqF c1) (s_eqF c2) (s_eqF c3) (s_eqF c4) (s_eqF c5) (s_eqF c6) (s_eqF c7) (s_eqF c9) (s_eqF c10)
structure RpAt (J : AH O) (B : RtB) (wb k : Nat) (S : RS) (f a b c a' b' c' : SA) : Prop where
 h : RX J B S [wb] k (200000 * k)
 st : S.st f a b c a' b' c'
 bx : J.blk wb = some (.cells true T_haymowref19_State (S.vs f a b c a' b' c'))
theorem rplays_do (H : RpAt J B wb k S f a b c a' b' c') (hk : k < 60) {so : SA} {N : Nat} (hkN : k < N) (hN : N <= 60) {o : ROp} {bb : Bid} {oo : Nat} (e : so = .loc bb oo 3) (l0 : ∀ J : AH O, J.ld bb (oo + k * 3) = some (.i .i64 o.kind)) (l1 : ∀ J : AH O, J.ld bb (oo + k * 3 + 1) = some (.i .i64 o.n)) (l2 : ∀ J : AH O, J.ld bb (oo + k * 3 + 1 + 1) = some (.i .u64 o.w)) {r3 : AV × AH O} (hr3 : r3.2.next = wb) (ho : r64 o.n) :
  Ok (law19_RootsPlay_L1 (so, N) r3 law19_do (some (.n B.rb, 0)) roots_Roots__Charge haymowref19_Charge roots_Roots__Globals roots_Roots__Weaks frames_Frames__Depth ([.i .i64 (k : Int)], J)) fun r => ∃ J' S' f2 x y z x' y' z', r = .inl ([.i .i64 ((k : Int) + 1)], J') /\ RpAt J' B wb (k + 1) S' f2 x y z x' y' z' := by
 subst e
 have hbx := H.bx
 simp only [RS.vs] at hbx
 simp (maxSteps := 2000000) -implicitDefEqProofs (disch := (first | omega | rfl | assumption | (simp only [rsD]; first | omega | assumption))) only [law19_RootsPlay_L1, hr3, hbx, l0, l1, l2, Nat.reduceAdd, Nat.reduceMul, Nat.reduceLT, Int.reduceToNat, Int.reduceAdd, Int.reduceSub, Int.reduceMul, rsU, rsC]
 have hdo := rdo_ok H.h (by omega) (by omega) H.st (o := o) ho
 simp only [RS.vs, ROp.cells] at hdo
 refine Ok.step hdo fun r ⟨⟨S2, f2, x, y, z, x', y', z', p1, hst, p2⟩, p3⟩ => ?_
 obtain ⟨q, J1⟩ := r
 simp only at p1 p2 p3
 subst p1
 have hb1 : J1.blk wb = _ := (p3.blk wb (by simp)).trans hbx
 simp (maxSteps := 2000000) -implicitDefEqProofs (disch := (first | omega | rfl | assumption | (simp only [rsD]; first | omega | assumption))) only [RS.vs, hb1, Nat.reduceAdd, Nat.reduceMul, Nat.reduceLT, Int.reduceToNat, Int.reduceAdd, Int.reduceSub, Int.reduceMul, rsU, rsC]
 generalize hJ : AH.put J1 wb _ = J2
 have n2 : J2.next = J1.next := by rw [<- hJ]; rfl
 have hb2 : J2.blk wb = some (.cells true T_haymowref19_State (S2.vs f2 x y z x' y' z')) := by rw [<- hJ]; exact s_bs
 have o2 : ∀ q, q ≠ wb -> J2.blk q = J1.blk q := fun q h1 => by rw [<- hJ]; exact s_bn h1
 clear hJ
 have h2 : RX J2 B S2 [wb] (k + 1) (200000 * k + 200000) := p2.turn (L := [wb]) ⟨by omega, fun q hq hm => o2 q (by simpa using hm)⟩ (fun q hq => .inl hq) fun q hq => .inl hq
 have hsm2 := h2.sm (by omega)
 have cg := rxcharge h2
 have hv2 := hb2
 simp only [RS.vs] at hb2
 simp (maxSteps := 2000000) -implicitDefEqProofs (disch := (first | omega | rfl | assumption | (simp only [rsD]; first | omega | assumption))) only [hr3, hb2, cg, Nat.reduceAdd, Nat.reduceMul, Nat.reduceLT, Int.reduceToNat, Int.reduceAdd, Int.reduceSub, Int.reduceMul, rsU, rsC]
 have ch := rrcharge_ok (J := J2) hsm2 hst
 simp only [RS.vs] at ch
 refine Ok.step ch fun r ⟨g1, E3⟩ => ?_
 obtain ⟨q, J3⟩ := r
 simp only at g1 E3
 subst g1
 have h3 : RX J3 B S2 [wb] (k + 1) (200000 * k + 200000) := h2.turn (L := []) E3.chg (by simp) fun q hq => .inl hq
 have hwl : wb < J2.next := h2.lX wb (by simp)
 have hv3 := (E3.blk wb hwl).trans hv2
 have hb3 : J3.blk wb = _ := (E3.blk wb hwl).trans hb2
 have gl := rxglobals h3
 have wk := rxweaks h3
 obtain ⟨el, x1, x2, hf, dp⟩ := h3.frames
 have q1 : (((wds S2.L : Int) + 4 * (S2.G.L.length : Int) + 4 * (S2.K.L.length : Int)) != ((wds S2.L : Int) + 4 * (S2.G.L.length : Int) + 4 * (S2.K.L.length : Int))) = false := by simp
 have q2 : (((S2.G.L.length : Nat) : Int) != ((S2.G.L.length : Nat) : Int)) = false := by simp
 have q3 : (((S2.K.L.length : Nat) : Int) != ((S2.K.L.length : Nat) : Int)) = false := by simp
 have q4 : (((S2.L.length : Nat) : Int) == ((S2.L.reverse.length : Nat) : Int)) = true := by simp
 have bf : (false == false) = true := rfl
 simp (maxSteps := 2000000) -implicitDefEqProofs (disch := (first | omega | rfl | assumption | (simp only [rsD]; first | omega | assumption))) only [hr3, hb3, gl, wk, hf, dp, q1, q2, q3, q4, bf, Nat.reduceAdd, Nat.reduceMul, Nat.reduceLT, Int.reduceToNat, Int.reduceAdd, Int.reduceSub, Int.reduceMul, rsU, rsC]
 exact Ok_some.2 ⟨J3, S2, f2, x, y, z, x', y', z', rfl, h3.le (by push_cast; omega), hst, hv3⟩
theorem rplays_read (H : RpAt J B wb k S f a b c a' b' c') (hk : k <= 60) {r3 : AV × AH O} (hr3 : r3.2.next = wb) :
  Ok (loopF (S := List AV × AH O) (T := (List AV × AH O) ⊕ (AV × AH O)) (law19_RootsPlay_L2 r3 roots_Roots__Get (some (.n B.rb, 0))) ([.i .i64 0], J)) fun r => ∃ J', r = .inl ([], J') := by
 have hbx := H.bx
 simp only [RS.vs] at hbx
 have hsm := H.h.sm (by omega)
 have hgl := hsm.g
 refine Ok.count S.G.L.length (fun j s => ∃ J', s = ([.i .i64 (j : Int)], J') /\ RX J' B S [wb] k (200000 * k + 10 * j) /\ J'.blk wb = J.blk wb) ?_ ?_ ⟨J, rfl, H.h.le (by omega), rfl⟩
 ·rintro j s hj ⟨J1, rfl, h1, bx1⟩
  obtain ⟨t, x, hx, hg, hr⟩ := h1.global (by omega) hj
  obtain ⟨qb, qo, rfl, hld⟩ := Imm.row hcell_len H.st.g.l hx (by decide)
  have ld0 : ∀ J : AH O, J.ld qb (qo + j * 2) = some (.i .i64 t) := fun J => hld O J 0 (by decide)
  have ld1 : ∀ J : AH O, J.ld qb (qo + j * 2 + 1) = some (.i .u64 x) := fun J => hld O J 1 (by decide)
  have hb1 : J1.blk wb = _ := bx1.trans hbx
  simp (maxSteps := 2000000) -implicitDefEqProofs (disch := (first | omega | rfl | assumption | (simp only [rsD]; first | omega | assumption))) only [law19_RootsPlay_L2, hr3, hb1, ld0, Nat.reduceAdd, Nat.reduceMul, Nat.reduceLT, Int.reduceToNat, Int.reduceAdd, Int.reduceSub, Int.reduceMul, rsU, rsC]
  refine Ok.step (rxget h1 (by omega) hr) fun r ⟨g1, g2, g4⟩ => ?_
  obtain ⟨q, J2⟩ := r
  simp only at g1 g2 g4
  rw [hg] at g1
  subst g1
  have hb2 : J2.blk wb = _ := (g4.blk wb (by simp)).trans hb1
  have q0 : (x != x) = false := by simp
  have q1 : ((0 : Int) != 0) = false := rfl
  have q2 : (false == false) = true := rfl
  simp (maxSteps := 2000000) -implicitDefEqProofs (disch := (first | omega | rfl | assumption | (simp only [rsD]; first | omega | assumption))) only [hr3, hb2, ld0, ld1, q0, q1, q2, eq_self, Nat.reduceAdd, Nat.reduceMul, Nat.reduceLT, Int.reduceToNat, Int.reduceAdd, Int.reduceSub, Int.reduceMul, rsU, rsC]
  exact Ok_some.2 ⟨J2, by simp, g2.le (by push_cast; omega), (g4.blk wb (by simp)).trans bx1⟩
 ·rintro s ⟨J1, rfl, h1, bx1⟩
  have hb1 : J1.blk wb = _ := bx1.trans hbx
  simp (maxSteps := 2000000) -implicitDefEqProofs (disch := (first | omega | rfl | assumption | (simp only [rsD]; first | omega | assumption))) only [law19_RootsPlay_L2, hr3, hb1, Nat.reduceAdd, Nat.reduceMul, Nat.reduceLT, Int.reduceToNat, Int.reduceAdd, Int.reduceSub, Int.reduceMul, rsU, rsC]
  refine Ok_some.2 ?_
  exact ⟨J1, rfl⟩
end
end Go.Abs.Tryz
namespace Go.Abs.Tryz
open Go Go.Abs
variable {O : Type}
structure ROp.rng (o : ROp) : Prop where
 n : r64 o.n
def noS : RS := ⟨[], ⟨⟨3, [], [], 0⟩, []⟩, ⟨⟨3, [], [], 0⟩, []⟩⟩
theorem rootsPlay_ok {J : AH O} {so : SA} {ops : List ROp} (hj : Imm 3 so ops.length (ops.flatMap ROp.cells)) (hr : ∀ o ∈ ops, o.rng) : Ok (law19_RootsPlay [.sl so ops.length] J) fun r => r.1 = .b true := by
 simp (maxSteps := 2000000) -implicitDefEqProofs (disch := (first | omega | rfl | assumption | (simp only [rsD]; first | omega | assumption))) only [law19_RootsPlay, law19_RootsPlay_c, Nat.reduceAdd, Nat.reduceMul, Nat.reduceLT, Int.reduceToNat, Int.reduceAdd, Int.reduceSub, Int.reduceMul, rsU, rsC]
 refine Ok.step (awake19_ok (X := []) (by simp)) fun r ⟨g1, _⟩ => ?_
 obtain ⟨q, J1⟩ := r
 simp only at g1
 subst g1
 by_cases hbig : (ops.length : Int) > 60
 ·simp (maxSteps := 2000000) -implicitDefEqProofs (disch := (first | omega | rfl | assumption | (simp only [rsD]; first | omega | assumption))) only [Nat.reduceAdd, Nat.reduceMul, Nat.reduceLT, Int.reduceToNat, Int.reduceAdd, Int.reduceSub, Int.reduceMul, rsU, rsC]
  exact Ok_some.2 rfl
 simp (maxSteps := 2000000) -implicitDefEqProofs (disch := (first | omega | rfl | assumption | (simp only [rsD]; first | omega | assumption))) only [Nat.reduceAdd, Nat.reduceMul, Nat.reduceLT, Int.reduceToNat, Int.reduceAdd, Int.reduceSub, Int.reduceMul, rsU, rsC]
 refine Ok.step (made19_ok (X := []) (by simp)) fun r ⟨B, F, P, P2, g1, R, g2, g3, g4, K1⟩ => ?_
 obtain ⟨q, J2⟩ := r
 simp only at g1 R K1
 subst g1
 simp (maxSteps := 2000000) -implicitDefEqProofs (disch := (first | omega | rfl | assumption | (simp only [rsD]; first | omega | assumption))) only [haymowref19_New, haymowref19_New_c, haymowref18_New, haymowref18_New_c, Nat.reduceAdd, Nat.reduceMul, Nat.reduceLT, Int.reduceToNat, Int.reduceAdd, Int.reduceSub, Int.reduceMul, rsU, rsC]
 generalize hJ : AH.put _ J2.next _ = J3
 have n3 : J2.next < J3.next := by rw [<- hJ]; simp; omega
 have E : Ext J2 J3 := ⟨by omega, fun q hq => by rw [<- hJ]; simp -implicitDefEqProofs (disch := omega) only [s_bn, s_bs, s_kn, bump_blk]⟩
 have b3 : J3.blk J2.next = some (.cells true T_haymowref19_State (noS.vs .nil .nil .nil .nil .nil .nil .nil)) := by rw [<- hJ]; exact s_bs
 clear hJ
 subst g2 g3 g4
 have m0 : mem3.met.r = 0 /\ mem3.met.w = 0 := ⟨rfl, rfl⟩
 have sim0 : ∀ id : Int, HSim ⟨⟨3, [], [], 0⟩, []⟩ ⟨id, 3, 0, [], [], 0⟩ [] := fun id => ⟨rfl, rfl, rfl, fun i d hd => by simp at hd, rfl, rfl, fun k i hk => by simp at hk⟩
 have bd0 : ∀ id : Int, HBd 0 ⟨id, 3, 0, [], [], 0⟩ := fun id => ⟨Nat.le_refl _, Nat.le_refl _, fun i t g x hv => by simp [vw] at hv, Nat.zero_le _⟩
 have st0 : HS.st ⟨⟨3, [], [], 0⟩, []⟩ .nil .nil .nil := ⟨⟨_, _, rfl, .sl (Imm.nil 3) .nil, .sl (Imm.nil 1) .nil⟩, Imm.nil 2⟩
 have start : RpAt J3 B J2.next 0 noS .nil .nil .nil .nil .nil .nil .nil := by
  refine ⟨⟨mem3, _, _, _, _, _, _, _, _, R.turn (L := []) E.chg (by simp) fun q hq => ?_, rfl, sim0 _, sim0 _, bd0 _, bd0 _, Nat.le_refl _, by omega, by omega, by omega⟩, ⟨⟨[], Imm.nil 1, .nil⟩, st0, st0⟩, b3⟩
  simp at hq; subst hq; right; omega
 refine Ok.bindS (Q := fun r => ∃ J' S f a b c a' b' c' k, r = .inl ([], J') /\ RpAt J' B J2.next k S f a b c a' b' c' /\ k <= 60) ?_ ?_ (fun r h => by obtain ⟨_, _, _, _, _, _, _, _, _, _, e, _⟩ := h; cases e)
 ·refine Ok.count ops.length (fun k s => ∃ J' S f a b c a' b' c', s = ([.i .i64 (k : Int)], J') /\ RpAt J' B J2.next k S f a b c a' b' c') ?_ ?_ ⟨J3, _, _, _, _, _, _, _, _, rfl, start⟩
  ·rintro k s hk ⟨J', S, f, a, b, c, a', b', c', rfl, h⟩
   have hx := List.getElem?_eq_getElem hk
   have hxr := hr _ (List.mem_of_getElem? hx)
   generalize ops[k] = x at hx hxr
   obtain ⟨bb, o, e, hld⟩ := Imm.row ROp.len hj hx (by omega)
   refine (rplays_do h (by omega) (N := ops.length) hk (by omega) e (fun J => hld O J 0 (by omega)) (fun J => hld O J 1 (by omega)) (fun J => hld O J 2 (by omega)) (r3 := _) rfl hxr.n).mono ?_
   rintro _ ⟨J', S', f2, x, y, z, x', y', z', rfl, h'⟩
   exact ⟨J', S', f2, x, y, z, x', y', z', rfl, h'⟩
  ·rintro s ⟨J', S, f, a, b, c, a', b', c', rfl, h⟩
   simp (maxSteps := 2000000) -implicitDefEqProofs (disch := (first | omega | rfl | assumption | (simp only [rsD]; first | omega | assumption))) only [law19_RootsPlay_L1, Nat.reduceAdd, Nat.reduceMul, Nat.reduceLT, Int.reduceToNat, Int.reduceAdd, Int.reduceSub, Int.reduceMul, rsU, rsC]
   refine Ok_some.2 ?_
   exact ⟨J', S, f, a, b, c, a', b', c', _, rfl, h, by omega⟩
 rintro _ ⟨J', S, f, a, b, c, a', b', c', k, e, h, hk⟩
 cases e
 simp (maxSteps := 2000000) -implicitDefEqProofs (disch := (first | omega | rfl | assumption | (simp only [rsD]; first | omega | assumption))) only [Nat.reduceAdd, Nat.reduceMul, Nat.reduceLT, Int.reduceToNat, Int.reduceAdd, Int.reduceSub, Int.reduceMul, rsU, rsC]
 refine Ok.bindS (rplays_read h hk (r3 := _) rfl) ?_ (fun r hh => by obtain ⟨_, e⟩ := hh; cases e)
 rintro _ ⟨J4, e⟩
 cases e
 simp (maxSteps := 2000000) -implicitDefEqProofs (disch := (first | omega | rfl | assumption | (simp only [rsD]; first | omega | assumption))) only [Nat.reduceAdd, Nat.reduceMul, Nat.reduceLT, Int.reduceToNat, Int.reduceAdd, Int.reduceSub, Int.reduceMul, rsU, rsC]
 exact Ok_some.2 rfl
theorem ropsOf {sa : SA} {els : List (List AV)} (hrow : ∀ el ∈ els, el.length = 3 /\ ∀ (i : Nat) (k : Option IntKind) (v : AV), ([some .i64, some .i64, some .u64] : List (Option IntKind))[i]? = some k -> el[i]? = some v -> FldIs k v)
  (himm : Imm 3 sa els.length els.flatten) : ∃ ops : List ROp, els.length = ops.length /\ Imm 3 sa ops.length (ops.flatMap ROp.cells) /\ ∀ o ∈ ops, o.rng := by
 have : ∃ ops : List ROp, els = ops.map ROp.cells /\ ∀ o ∈ ops, o.rng := by
  clear himm
  induction els with
  | nil => exact ⟨[], rfl, by simp⟩
  | cons el els ih =>
   obtain ⟨ops, e, hr⟩ := ih fun x hx => hrow x (List.mem_cons_of_mem _ hx)
   obtain ⟨hl, hn⟩ := hrow el List.mem_cons_self
   match el, hl with
   | [a, b, c], _ =>
    obtain ⟨a, rfl, _⟩ := hn 0 _ _ rfl rfl
    obtain ⟨b, rfl, hb⟩ := hn 1 _ _ rfl rfl
    obtain ⟨c, rfl, _⟩ := hn 2 _ _ rfl rfl
    refine ⟨⟨a, b, c⟩ :: ops, by rw [e]; rfl, fun o ho => ?_⟩
    rcases List.mem_cons.1 ho with rfl | ho
    ·exact ⟨hb⟩
    ·exact hr o ho
 obtain ⟨ops, rfl, hr⟩ := this
 exact ⟨ops, by simp, by simpa [List.flatMap_def] using himm, hr⟩
end Go.Abs.Tryz
