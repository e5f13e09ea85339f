/-
  Reach: rows of nodes. No conditions.
-/
import Derived.Test.YthkpjongjnjfgaaL36
import Derived.Test.YthkpjongjnjfgaaS8k
set_option linter.unusedVariables false
set_option linter.unusedSimpArgs false
set_option linter.constructorNameAsVariable false
set_option linter.unusedSimpArgs false
set_option linter.unusedVariables false
set_option linter.unusedSectionVars false
set_option maxHeartbeats 2000000
namespace Go.Abs.Try
open Go Go.Abs
variable {O : Type}
def kv (v : Int -> Int) (k : Int) : AV × AV := (.i .i64 k, .i .i64 (v k))
theorem findK_hit (v : Int -> Int) : ∀ (l : List Int) {k : Int}, k ∈ l -> findM .i64 k (l.map (kv v)) = some (some (l.idxOf k, .i .i64 (v k)))
 | j :: l, k, h => by
  simp only [List.map_cons, kv, findM, if_true]
  by_cases c : j = k
  ·subst c; simp
  ·have q0 : (k == j) = false := s_eqF (fun e => c e.symm)
   rw [q0, cond_false, show (j :: l).idxOf k = l.idxOf k + 1 by rw [List.idxOf_cons, beq_eq_false_iff_ne.2 c]; rfl]
   have hi : k ∈ l := by
    rcases List.mem_cons.1 h with e | h
    ·exact absurd e.symm c
    ·exact h
   rw [findK_hit v l hi]; rfl
theorem findK_miss (v : Int -> Int) {k : Int} : ∀ (l : List Int), k ∉ l -> findM .i64 k (l.map (kv v)) = some none
 | [], _ => rfl
 | j :: l, h => by
  simp only [List.mem_cons, not_or] at h
  simp only [List.map_cons, kv, findM, if_true]
  rw [s_eqF h.1, cond_false, findK_miss v l h.2]; rfl
def MapAt (J : AH O) (mm : Nat) (l : List Int) (v : Int -> Int) : Prop := ∃ st c, J.blk mm = some (.map (l.map (kv v)) st c)
theorem MapAt.ents {J : AH O} {mm : Nat} {l : List Int} {v : Int -> Int} (h : MapAt J mm l v) : entsOf J (.mp (some mm)) = some (l.map (kv v)) := by
 obtain ⟨st, c, h⟩ := h
 simp only [entsOf, h]
theorem MapAt.of {J J' : AH O} {mm : Nat} {l : List Int} {v : Int -> Int} (h : MapAt J mm l v) (e : J'.blk mm = J.blk mm) : MapAt J' mm l v := by
 obtain ⟨st, c, h⟩ := h
 exact ⟨st, c, e.trans h⟩
def freshS (D : List DN) (s : List Int × List Int) (id : Int) : List Int × List Int := if (liveAt D id).isSome = true /\ id ∉ s.2 then (s.1 ++ [id], s.2 ++ [id]) else s
def fresh (D : List DN) (met l : List Int) : List Int × List Int := l.foldl (freshS D) ([], met)
def freshK (D : List DN) (met l : List Int) (k : Nat) : List Int × List Int := (l.take k).foldl (freshS D) ([], met)
theorem freshK_succ {D : List DN} {met l : List Int} {k : Nat} {id : Int} (h : l[k]? = some id) : freshK D met l (k + 1) = freshS D (freshK D met l k) id := by
 unfold freshK
 rw [take_snoc h, List.foldl_append]; rfl
theorem freshK_len (D : List DN) (met l : List Int) : ∀ k, (freshK D met l k).1.length <= k
 | 0 => by simp [freshK]
 | k + 1 => by
  by_cases c : k < l.length
  ·rw [freshK_succ (List.getElem?_eq_getElem c)]
   have := freshK_len D met l k
   unfold freshS
   split <;> simp <;> omega
  ·have : freshK D met l (k + 1) = freshK D met l k := by
    unfold freshK
    rw [List.take_of_length_le (by omega), List.take_of_length_le (by omega)]
   rw [this]
   have := freshK_len D met l k
   omega
structure Tm (mm : Nat) (J J' : AH O) : Prop where
 next : J.next <= J'.next
 blk : ∀ b, b < J.next -> b ≠ mm -> J'.blk b = J.blk b
theorem Tm.refl (mm : Nat) (J : AH O) : Tm mm J J := ⟨Nat.le_refl _, fun _ _ _ => rfl⟩
theorem Tm.trans {mm : Nat} {J J' J'' : AH O} (h : Tm mm J J') (k : Tm mm J' J'') : Tm mm J J'' := ⟨Nat.le_trans h.next k.next, fun b hb hn => (k.blk b (Nat.lt_of_lt_of_le hb h.next) hn).trans (h.blk b hb hn)⟩
theorem Ext.tm {mm : Nat} {J J' : AH O} (h : Ext J J') : Tm mm J J' := ⟨h.next, fun b hb _ => h.blk b hb⟩
structure NB (base : Nat) (J : AH O) (a : SA) (l : List Int) : Prop where
 o : OwnS J 3 1 a l.length (l.map (AV.i .i64))
 lo : ∀ b ∈ SA.bk a, base <= b
theorem NB.nil (base : Nat) (J : AH O) : NB base J .nil [] := ⟨OwnS.nil _ _ _, by simp [SA.bk]⟩
theorem NB.of {base : Nat} {J J' : AH O} {a : SA} {l : List Int} (h : NB base J a l) (hn : J.next <= J'.next) (hb : ∀ b, base <= b -> b < J.next -> J'.blk b = J.blk b) : NB base J' a l :=
 ⟨h.o.of hn fun b hm => hb b (h.lo b hm) (h.o.lt b hm), h.lo⟩
theorem NB.rd {base : Nat} {J : AH O} {a : SA} {l : List Int} (h : NB base J a l) : Rd J 1 a l.length (l.map (AV.i .i64)) := h.o.rd
theorem NB.push {base : Nat} {J : AH O} {a : SA} {l new : List Int} {nid : Nat} (h : NB base J a l) (h0 : base <= nid) (h1 : nid ∉ SA.bk a) (h2 : nid < J.next) :
  Ok (J.appSl nid 3 1 a l.length new.length (new.map (AV.i .i64))) fun r => ∃ a', r.1 = .sl a' (l ++ new).length /\ NB base r.2 a' (l ++ new) /\ r.2.next = J.next /\ (∀ b, b ≠ nid -> b ∉ SA.bk a -> r.2.blk b = J.blk b) /\ ∀ b ∈ SA.bk a', b = nid := by
 refine (app_ok (nid := nid) h.o h1 h2 (m := new.length) (new := new.map (AV.i .i64)) (by simp)).mono ?_
 rintro ⟨q, J'⟩ ⟨a', q1, q2, q3, q4, q5⟩
 simp only at q1 q2 q3 q4
 have hl : (l ++ new).length = l.length + new.length := by simp
 have hm : (l ++ new).map (AV.i .i64) = l.map (AV.i .i64) ++ new.map (AV.i .i64) := by simp
 exact ⟨a', by rw [hl]; exact q1, ⟨by rw [hl, hm]; exact q2, fun b hb => by rw [q5 b hb]; exact h0⟩, q3, q4, q5⟩
structure FreshI (J0 : AH O) (mm : Nat) (s : List Int × List Int) (a : SA) (J : AH O) : Prop where
 r : NB J0.next J a s.1
 m : MapAt J mm s.2 (fun _ => 1)
 t : Tm mm J0 J
theorem fresh_ok {J : AH O} {gb mb mm gbx mbx t1 t2 : Nat} {D : List DN} {N : Nat -> Nat} (G : GAt J gb mb D N) (hgx : J.blk gbx = some (.cells true t1 [.p (some (.n gb, 0))])) (hmx : J.blk mbx = some (.cells true t2 [.mp (some mm)]))
  {met : List Int} (M : MapAt J mm met (fun _ => 1)) (n1 : gbx ≠ mm) (n2 : mbx ≠ mm) (nf : Free gb mb D N mm) (l1 : gbx < J.next) (l2 : mbx < J.next) (l3 : mm < J.next) {a : SA} {l : List Int} (rl : Rd J 1 a l.length (l.map (.i .i64))) (rb : ∀ b ∈ SA.bk a, b ≠ mm /\ b < J.next) (hl : l.length <= 10000000) :
  Ok (reach_Levels_1 [.sl a l.length, .p (some (.n gbx, 0)), .p (some (.n mbx, 0))] J) fun r => ∃ a', r.1 = .sl a' (fresh D met l).1.length /\ FreshI J mm (fresh D met l) a' r.2 := by
 have b1 : (true == true) = true := rfl
 have b2 : (false == true) = false := rfl
 simp (maxSteps := 2000000) -implicitDefEqProofs (disch := (first | omega | rfl | assumption | (simp only [rsD]; first | omega | assumption))) only [reach_Levels_1, reach_Levels_1_c, Nat.reduceAdd, Nat.reduceMul, Nat.reduceLT, Int.reduceToNat, Int.reduceAdd, Int.reduceSub, Int.reduceMul, rsU, rsC]
 refine Ok.step (Ok.count l.length (fun k s => ∃ a' J', s = ([.sl a' (freshK D met l k).1.length, .i .i64 (k : Int)], J') /\ FreshI J mm (freshK D met l k) a' J') (Q := fun r => ∃ a' J', r = ([.sl a' (fresh D met l).1.length], J') /\ FreshI J mm (fresh D met l) a' J') ?_ ?_ ?_) ?_
 ·rintro k s hk ⟨a', J', rfl, F⟩
  obtain ⟨id, hid⟩ : ∃ id, l[k]? = some id := ⟨_, List.getElem?_eq_getElem hk⟩
  have nx := F.t.next
  have rk : Rd J' 1 a l.length (l.map (.i .i64)) := rl.of fun b hb => F.t.blk b (rb b hb).2 (rb b hb).1
  obtain ⟨b, o, rfl, ld⟩ := rk.at1 (i := k) (v := .i .i64 id) (by rw [List.getElem?_map, hid]; rfl)
  rw [Nat.mul_one] at ld
  have dk := decide_eq_true (show (k : Int) < (l.length : Int) by omega)
  have gx := (F.t.blk gbx l1 n1).trans hgx
  have mx := (F.t.blk mbx l2 n2).trans hmx
  have G' : GAt J' gb mb D N := G.of nx fun q hq hf => F.t.blk q hq fun e => hf (e ▸ nf)
  have I1 := gis_ok G' (id := id)
  have me := F.m.ents
  have lf := freshK_len D met l k
  have fk := freshK_succ (D := D) (met := met) hid
  generalize freshK D met l k = S at *
  obtain ⟨R, met'⟩ := S
  simp only at lf me
  by_cases c : (liveAt D id).isSome = true
  ·rw [c] at I1
   by_cases c2 : id ∈ met'
   ·have f := findK_hit (fun _ => 1) met' c2
    have z0 : ((1 : Int) == 0) = false := rfl
    simp (maxSteps := 2000000) -implicitDefEqProofs (disch := (first | omega | rfl | assumption | (simp only [rsD]; first | omega | assumption))) only [reach_Levels_1_L1, dk, ld, gx, I1, b1, mx, s_mp, me, f, s_lookS, z0, Nat.reduceAdd, Nat.reduceMul, Nat.reduceLT, Int.reduceToNat, Int.reduceAdd, Int.reduceSub, Int.reduceMul, rsU, rsC]
    have e : freshS D (R, met') id = (R, met') := by unfold freshS; rw [if_neg (by simp [c2])]
    rw [fk, e]
    exact Ok_some.2 ⟨a', J', rfl, F⟩
   ·have f := findK_miss (fun _ => 1) met' c2
    have z0 : ((0 : Int) == 0) = true := rfl
    obtain ⟨st, cc, hm⟩ := F.m
    have e : freshS D (R, met') id = (R ++ [id], met' ++ [id]) := by unfold freshS; rw [if_pos ⟨c, c2⟩]
    have up := updB_none (k := .i .i64 id) (v := .i .i64 1) hm
    simp (maxSteps := 2000000) -implicitDefEqProofs (disch := (first | omega | rfl | assumption | (simp only [rsD]; first | omega | assumption))) only [reach_Levels_1_L1, dk, ld, gx, I1, b1, mx, s_mp, me, f, s_lookN, z0, up, put_next, Nat.reduceAdd, Nat.reduceMul, Nat.reduceLT, Int.reduceToNat, Int.reduceAdd, Int.reduceSub, Int.reduceMul, rsU, rsC]
    rw [fk, e]
    generalize hJ : AH.put _ J'.next _ = J2
    have x2 : J2.next = J'.next + 2 := by rw [<- hJ]; rfl
    have m2 : J2.blk mm = some (.map (met'.map (kv fun _ => 1) ++ [(.i .i64 id, .i .i64 1)]) (st ++ [cc]) (cc + 1)) := by rw [<- hJ]; ((try simp only [rsD] at *); simp -implicitDefEqProofs (disch := (first | omega | rfl | assumption | (simp only [rsD]; first | omega | assumption))) only [s_bs, s_bn, s_kn, bump_blk])
    have o2 : ∀ q, q < J'.next -> q ≠ mm -> J2.blk q = J'.blk q := fun q h1 h2 => by rw [<- hJ]; ((try simp only [rsD] at *); simp -implicitDefEqProofs (disch := (first | omega | rfl | assumption | (simp only [rsD]; first | omega | assumption))) only [s_bs, s_bn, s_kn, bump_blk])
    clear hJ
    have r2 : NB J.next J2 a' R := F.r.of (by omega) fun q h1 h2 => o2 q h2 (by omega)
    refine Ok.step (r2.push (new := [id]) (nid := J'.next + 1) (by omega) (fun hm => by have := F.r.o.lt _ hm; omega) (by omega)) fun q ⟨a2, q1, q2, q3, q4, q5⟩ => ?_
    obtain ⟨q, J3⟩ := q
    simp only at q1 q2 q3 q4
    subst q1
    simp (maxSteps := 2000000) -implicitDefEqProofs (disch := (first | omega | rfl | assumption | (simp only [rsD]; first | omega | assumption))) only [Nat.reduceAdd, Nat.reduceMul, Nat.reduceLT, Int.reduceToNat, Int.reduceAdd, Int.reduceSub, Int.reduceMul, rsU, rsC]
    have nm : mm ∉ SA.bk a' := fun hm => by have := F.r.lo _ hm; omega
    refine Ok_some.2 ⟨a2, J3, rfl, q2, ⟨st ++ [cc], cc + 1, ?_⟩, ⟨by omega, fun q hq hn => ?_⟩⟩
    ·rw [q4 mm (by omega) nm, m2]
     simp [kv]
    ·rw [q4 q (by omega) (fun hm => by have := F.r.lo _ hm; omega), o2 q (by omega) hn]
     exact F.t.blk q hq hn
  ·have c' : (liveAt D id).isSome = false := by simpa using c
   rw [c'] at I1
   simp (maxSteps := 2000000) -implicitDefEqProofs (disch := (first | omega | rfl | assumption | (simp only [rsD]; first | omega | assumption))) only [reach_Levels_1_L1, dk, ld, gx, I1, b2, Nat.reduceAdd, Nat.reduceMul, Nat.reduceLT, Int.reduceToNat, Int.reduceAdd, Int.reduceSub, Int.reduceMul, rsU, rsC]
   have e : freshS D (R, met') id = (R, met') := by unfold freshS; rw [if_neg (by simp [c'])]
   rw [fk, e]
   exact Ok_some.2 ⟨a', J', rfl, F⟩
 ·rintro s ⟨a', J', rfl, F⟩
  have e : freshK D met l l.length = fresh D met l := by unfold freshK fresh; rw [List.take_length]
  rw [e] at F
  simp (maxSteps := 2000000) -implicitDefEqProofs (disch := (first | omega | rfl | assumption | (simp only [rsD]; first | omega | assumption))) only [reach_Levels_1_L1, Nat.reduceAdd, Nat.reduceMul, Nat.reduceLT, Int.reduceToNat, Int.reduceAdd, Int.reduceSub, Int.reduceMul, rsU, rsC]
  rw [e]
  exact Ok_some.2 ⟨a', J', rfl, F⟩
 ·exact ⟨.nil, J, rfl, NB.nil _ _, M, Tm.refl _ _⟩
 ·rintro _ ⟨a', J', rfl, F⟩
  simp (maxSteps := 2000000) -implicitDefEqProofs (disch := (first | omega | rfl | assumption | (simp only [rsD]; first | omega | assumption))) only [Nat.reduceAdd, Nat.reduceMul, Nat.reduceLT, Int.reduceToNat, Int.reduceAdd, Int.reduceSub, Int.reduceMul, rsU, rsC]
  exact Ok_some.2 ⟨a', rfl, F⟩
end Go.Abs.Try
namespace Go.Abs.Try
open Go Go.Abs
variable {O : Type}
def rowT (r : List Int) : List TV := [intsT 3 .i64 r]
theorem rowT_len (r : List Int) : (rowT r).length = 1 := rfl
def nexts (D : List DN) (row : List Int) : List Int := row.flatMap (edgesD D)
def lev (D : List DN) : Nat -> List Int -> List Int -> List (List Int)
 | 0, _, _ => []
 | n + 1, met, row => if row = [] then [] else row :: lev D n (fresh D met (nexts D row)).2 (fresh D met (nexts D row)).1
def levelsD (D : List DN) (roots : List Int) : List (List Int) := lev D (2 + D.length) (fresh D [] roots).2 (fresh D [] roots).1
theorem nexts_le {D : List DN} (hs : Small36 D) (row : List Int) (k : Nat) : (nexts D (row.take k)).length <= k * 5000 := by
 unfold nexts
 induction k with
 | zero => simp
 | succ k ih =>
  by_cases c : k < row.length
  ·rw [take_snoc (List.getElem?_eq_getElem c), List.flatMap_append, List.length_append]
   have h5 := edges_le hs row[k]
   simp only [List.flatMap_cons, List.flatMap_nil, List.append_nil]
   generalize (edgesD D row[k]).length = z at h5 ⊢
   generalize (List.flatMap (edgesD D) (List.take k row)).length = y at ih ⊢
   rw [Nat.add_mul]; omega
  ·rw [List.take_of_length_le (show row.length <= k by omega)] at ih
   rw [List.take_of_length_le (show row.length <= k + 1 by omega), Nat.add_mul]
   exact Nat.le_trans ih (Nat.le_add_right _ _)
theorem nexts_ok {J h : AH O} {gb mb t1 : Nat} {D : List DN} {N : Nat -> Nat} (G : GAt J gb mb D N) (hs : Small36 D) (hgx : J.blk h.next = some (.cells true t1 [.p (some (.n gb, 0))])) (hl : h.next < J.next) {a : SA} {row : List Int} (hr : Rd J 1 a row.length (row.map (.i .i64))) (rb : ∀ b ∈ SA.bk a, b < J.next) (hrl : row.length <= 1000) :
  Ok (loopF (S := List AV × AH O) (T := List AV × AH O) (reach_Levels_L2 (a, row.length) h graph_Graph__Edges) ([.sl .nil 0, .i .i64 0], J)) fun r => ∃ a' J', r = ([.sl a' (nexts D row).length], J') /\ NB J.next J' a' (nexts D row) /\ Ext J J' := by
 refine Ok.count row.length (fun k s => ∃ a' J', s = ([.sl a' (nexts D (row.take k)).length, .i .i64 (k : Int)], J') /\ NB J.next J' a' (nexts D (row.take k)) /\ Ext J J') ?_ ?_ ⟨.nil, J, rfl, NB.nil _ _, Ext.refl _⟩
 ·rintro k s hk ⟨a', J', rfl, B, e⟩
  obtain ⟨id, hid⟩ : ∃ id, row[k]? = some id := ⟨_, List.getElem?_eq_getElem hk⟩
  have rk : Rd J' 1 a row.length (row.map (.i .i64)) := hr.of fun b hb => e.blk b (rb b hb)
  obtain ⟨b, o, rfl, ld⟩ := rk.at1 (i := k) (v := .i .i64 id) (by rw [List.getElem?_map, hid]; rfl)
  rw [Nat.mul_one] at ld
  have dk := decide_eq_true (show (k : Int) < (row.length : Int) by omega)
  have gx := (e.blk _ hl).trans hgx
  have nx := e.next
  have E1 : Ext J' (J'.bump 1) := (ext_of (by simp only [put_next, bump_next, kill_next]; omega) (fun b hb => by simp -implicitDefEqProofs (disch := (first | omega | rfl | assumption | (simp only [rsD]; first | omega | assumption))) only [s_bn, s_kn, bump_blk, s_ext]))
  simp (maxSteps := 2000000) -implicitDefEqProofs (disch := (first | omega | rfl | assumption | (simp only [rsD]; first | omega | assumption))) only [reach_Levels_L2, dk, ld, gx, Nat.reduceAdd, Nat.reduceMul, Nat.reduceLT, Int.reduceToNat, Int.reduceAdd, Int.reduceSub, Int.reduceMul, rsU, rsC]
  refine Ok.step (gedges_ok ((G.ext e).ext E1) hs (id := id)) fun q ⟨a2, q1, q2⟩ => ?_
  obtain ⟨q, J2⟩ := q
  simp only at q1 q2
  subst q1
  have x2 := q2.e.next
  simp only [bump_next] at x2
  have r2 := q2.rd.rdSl
  have le := edges_le hs id
  have ln := nexts_le hs row k
  simp (maxSteps := 2000000) -implicitDefEqProofs (disch := (first | omega | rfl | assumption | (simp only [rsD]; first | omega | assumption))) only [r2, Nat.reduceAdd, Nat.reduceMul, Nat.reduceLT, Int.reduceToNat, Int.reduceAdd, Int.reduceSub, Int.reduceMul, rsU, rsC]
  have B2 : NB J.next J2 a' (nexts D (row.take k)) := B.of (by omega) fun q h1 h2 => by rw [q2.e.blk q (by simp; omega)]; rfl
  refine Ok.step (B2.push (new := edgesD D id) (nid := J'.next) (by omega) (fun hm => by have := B.o.lt _ hm; omega) (by omega)) fun q ⟨a3, q3, q4, q5, q6, q7⟩ => ?_
  obtain ⟨q, J3⟩ := q
  simp only at q3 q4 q5 q6
  subst q3
  simp (maxSteps := 2000000) -implicitDefEqProofs (disch := (first | omega | rfl | assumption | (simp only [rsD]; first | omega | assumption))) only [Nat.reduceAdd, Nat.reduceMul, Nat.reduceLT, Int.reduceToNat, Int.reduceAdd, Int.reduceSub, Int.reduceMul, rsU, rsC]
  have en : nexts D (row.take (k + 1)) = nexts D (row.take k) ++ edgesD D id := by
   unfold nexts
   rw [take_snoc hid, List.flatMap_append]; simp
  refine Ok_some.2 ⟨a3, J3, by rw [en]; rfl, by rw [en]; exact q4, ⟨by omega, fun q hq => ?_⟩⟩
  rw [q6 q (by omega) (fun hm => by have := B.lo _ hm; omega), q2.e.blk q (by simp; omega)]
  exact e.blk q hq
 ·rintro s ⟨a', J', rfl, B, e⟩
  rw [List.take_length] at B
  simp (maxSteps := 2000000) -implicitDefEqProofs (disch := (first | omega | rfl | assumption | (simp only [rsD]; first | omega | assumption))) only [reach_Levels_L2, Nat.reduceAdd, Nat.reduceMul, Nat.reduceLT, Int.reduceToNat, Int.reduceAdd, Int.reduceSub, Int.reduceMul, rsU, rsC]
  exact Ok_some.2 ⟨a', J', rfl, B, e⟩
theorem freshK_props (D : List DN) (met l : List Int) (hn : met.Nodup) (hl : ∀ m ∈ met, (liveAt D m).isSome = true) : ∀ k, (freshK D met l k).2 = met ++ (freshK D met l k).1 /\ (freshK D met l k).2.Nodup /\ ∀ m ∈ (freshK D met l k).2, (liveAt D m).isSome = true
 | 0 => by simp [freshK, hn]; exact hl
 | k + 1 => by
  by_cases c : k < l.length
  ·rw [freshK_succ (List.getElem?_eq_getElem c)]
   obtain ⟨h1, h2, h3⟩ := freshK_props D met l hn hl k
   unfold freshS
   split
   ·rename_i hc
    refine ⟨by simp only [h1, List.append_assoc], List.nodup_append.2 ⟨h2, by simp, fun a ha b hb e => by simp at hb; subst hb; subst e; exact hc.2 ha⟩, fun m hm => ?_⟩
    rcases List.mem_append.1 hm with hm | hm
    ·exact h3 m hm
    ·simp at hm; subst hm; exact hc.1
   ·exact ⟨h1, h2, h3⟩
  ·have : freshK D met l (k + 1) = freshK D met l k := by
    unfold freshK
    rw [List.take_of_length_le (by omega), List.take_of_length_le (by omega)]
   rw [this]
   exact freshK_props D met l hn hl k
theorem fresh_props {D : List DN} {met l : List Int} (hn : met.Nodup) (hl : ∀ m ∈ met, (liveAt D m).isSome = true) : (fresh D met l).2 = met ++ (fresh D met l).1 /\ (fresh D met l).2.Nodup /\ ∀ m ∈ (fresh D met l).2, (liveAt D m).isSome = true := by
 have := freshK_props D met l hn hl l.length
 unfold freshK at this
 rw [List.take_length] at this
 exact this
theorem met_le {D : List DN} {met : List Int} (hn : met.Nodup) (hl : ∀ m ∈ met, (liveAt D m).isSome = true) : met.length <= D.length := by
 have h1 : (met.map fun m => (m - 1).toNat).Nodup := by
  rw [List.nodup_iff_pairwise_ne, List.pairwise_map]
  refine List.Pairwise.imp_of_mem ?_ hn
  intro a b ha hb hne e
  obtain ⟨x, hx⟩ := Option.isSome_iff_exists.1 (hl a ha)
  obtain ⟨y, hy⟩ := Option.isSome_iff_exists.1 (hl b hb)
  obtain ⟨i, rfl, _⟩ := liveAt_some hx
  obtain ⟨j, rfl, _⟩ := liveAt_some hy
  exact hne (by omega)
 have h2 : ∀ i ∈ met.map fun m => (m - 1).toNat, i < D.length := fun i hi => by
  obtain ⟨m, hm, rfl⟩ := List.mem_map.1 hi
  obtain ⟨x, hx⟩ := Option.isSome_iff_exists.1 (hl m hm)
  obtain ⟨i, rfl, _, _, hi⟩ := liveAt_some hx
  omega
 have := (restOf_perm h1 h2).length_eq
 simp at this
 omega
end Go.Abs.Try
namespace Go.Abs.Try
open Go Go.Abs
variable {O : Type}
theorem NB.low {base base' : Nat} {J : AH O} {a : SA} {l : List Int} (h : NB base J a l) (hb : base' <= base) : NB base' J a l := ⟨h.o, fun b hm => Nat.le_trans hb (h.lo b hm)⟩
theorem NB.ow {base : Nat} {J : AH O} {a : SA} {l : List Int} (h : NB base J a l) : Ow J (intsT 3 .i64 l) (.sl a l.length) (SA.bk a) := by
 have := Ow.leaves (J := J) (el := 3) (es := 1) (n := l.length) (a := a) (xs := l.map (.i .i64)) h.o (flat_ints _)
 rw [<- int1_flat] at this; exact this
structure LevI (B : Nat) (mm : Nat) (J0 J : AH O) (D : List DN) (roots : List Int) (n : Nat) (rows : List (List Int)) (met row : List Int) (a r : SA) : Prop where
 o : ∃ Jo : AH O, BldO B Jo 25 1 rowT a rows /\ B <= Jo.next /\ Jo.next <= J.next /\ (∀ b, B <= b -> b < Jo.next -> J.blk b = Jo.blk b) /\ NB Jo.next J r row
 m : MapAt J mm met (fun _ => 1)
 t : Tm mm J0 J
 nd : met.Nodup
 lv : ∀ m ∈ met, (liveAt D m).isSome = true
 rl : row.length <= met.length
 e : levelsD D roots = rows ++ lev D n met row
 f : row = [] ∨ D.length + 1 <= n + met.length
 c : rows.length + n = 2 + D.length
theorem glevels_ok {J : AH O} {gb mb : Nat} {D : List DN} {N : Nat -> Nat} (G : GAt J gb mb D N) (hs : Small36 D) {a : SA} {roots : List Int} (rl : Rd J 1 a roots.length (roots.map (.i .i64))) (rb : ∀ b ∈ SA.bk a, b < J.next) (hl : roots.length <= 1000) :
  Ok (reach_Levels [.p (some (.n gb, 0)), .sl a roots.length] J) fun r => ∃ a', r.1 = .sl a' (levelsD D roots).length /\ BldO J.next r.2 25 1 rowT a' (levelsD D roots) /\ Ext J r.2 := by
 have hgl := G.gl
 have ho := G.o
 have hn := hs.n
 simp (maxSteps := 2000000) -implicitDefEqProofs (disch := (first | omega | rfl | assumption | (simp only [rsD]; first | omega | assumption))) only [reach_Levels, reach_Levels_c, Nat.reduceAdd, Nat.reduceMul, Nat.reduceLT, Int.reduceToNat, Int.reduceAdd, Int.reduceSub, Int.reduceMul, rsU, rsC]
 generalize hJ7 : AH.put _ (J.next + 1 + 1) _ = J7
 have n7 : J7.next = J.next + 3 := by rw [<- hJ7]; rfl
 have g7 : J7.blk J.next = some (.cells true 48 [.p (some (.n gb, 0))]) := by rw [<- hJ7]; ((try simp only [rsD] at *); simp -implicitDefEqProofs (disch := (first | omega | rfl | assumption | (simp only [rsD]; first | omega | assumption))) only [s_bs, s_bn, s_kn, bump_blk])
 have m7 : J7.blk (J.next + 1) = some (.map [] [] 0) := by rw [<- hJ7]; ((try simp only [rsD] at *); simp -implicitDefEqProofs (disch := (first | omega | rfl | assumption | (simp only [rsD]; first | omega | assumption))) only [s_bs, s_bn, s_kn, bump_blk])
 have x7 : J7.blk (J.next + 2) = some (.cells true 137 [.mp (some (J.next + 1))]) := by rw [<- hJ7]; ((try simp only [rsD] at *); simp -implicitDefEqProofs (disch := (first | omega | rfl | assumption | (simp only [rsD]; first | omega | assumption))) only [s_bs, s_bn, s_kn, bump_blk])
 have e7 : Ext J J7 := ⟨by omega, fun b hb => by rw [<- hJ7]; ((try simp only [rsD] at *); simp -implicitDefEqProofs (disch := (first | omega | rfl | assumption | (simp only [rsD]; first | omega | assumption))) only [s_bs, s_bn, s_kn, bump_blk])⟩
 clear hJ7
 have G7 := G.ext e7
 have nf : Free gb mb D N (J.next + 1) := ⟨by omega, by omega, fun i hi => by have := G.lo i hi; omega⟩
 have M7 : MapAt J7 (J.next + 1) [] (fun _ => 1) := ⟨[], 0, m7⟩
 refine Ok.step (fresh_ok G7 g7 x7 M7 (by omega) (by omega) nf (by omega) (by omega) (by omega) (rl.of fun b hb => e7.blk b (rb b hb)) (fun b hb => by have := rb b hb; omega) (by omega)) fun q ⟨r0, q1, q2⟩ => ?_
 obtain ⟨q, J8⟩ := q
 simp only at q1 q2
 subst q1
 simp (maxSteps := 2000000) -implicitDefEqProofs (disch := (first | omega | rfl | assumption | (simp only [rsD]; first | omega | assumption))) only [Nat.reduceAdd, Nat.reduceMul, Nat.reduceLT, Int.reduceToNat, Int.reduceAdd, Int.reduceSub, Int.reduceMul, rsU, rsC]
 have fp := fresh_props (D := D) (met := []) (l := roots) (by simp) (by simp)
 have L0 : LevI J7.next (J.next + 1) J7 J8 D roots (2 + D.length) [] (fresh D [] roots).2 (fresh D [] roots).1 .nil r0 :=
  ⟨⟨J7, BldO.nil _ _ _ rowT_len, Nat.le_refl _, q2.t.next, fun b h1 h2 => by omega, q2.r⟩, q2.m, q2.t, fp.2.1, fp.2.2, by rw [fp.1]; simp, rfl, Or.inr (by omega), by simp⟩
 refine Ok.step (Ok.loop (fun n s => ∃ rows met row a r J', s = ([.sl a rows.length, .sl r row.length], J') /\ LevI J7.next (J.next + 1) J7 J' D roots n rows met row a r) (Q := fun t => ∃ a J', t = ([.sl a (levelsD D roots).length], J') /\ BldO J.next J' 25 1 rowT a (levelsD D roots) /\ Ext J J') ?_ (2 + D.length) _ ⟨_, _, _, _, _, _, rfl, L0⟩) ?_
 ·rintro n s ⟨rows, met, row, a, r, J', rfl, I⟩
  have nx := I.t.next
  have lm := met_le I.nd I.lv
  have rl' := I.rl
  obtain ⟨Jo, B1, B2, B3, B4, B5⟩ := I.o
  by_cases c : row = []
  ·subst c
   have d0 : decide (((0 : Nat) : Int) > 0) = false := rfl
   have e0 : levelsD D roots = rows := by
    rw [I.e]; cases n <;> simp [lev]
   simp (maxSteps := 2000000) -implicitDefEqProofs (disch := (first | omega | rfl | assumption | (simp only [rsD]; first | omega | assumption))) only [reach_Levels_L1, List.length_nil, d0, Nat.reduceAdd, Nat.reduceMul, Nat.reduceLT, Int.reduceToNat, Int.reduceAdd, Int.reduceSub, Int.reduceMul, rsU, rsC]
   refine Ok_some.2 ⟨a, J', by rw [e0], ?_, ⟨by omega, fun b hb => ?_⟩⟩
   ·rw [e0]; exact (B1.keep B3 B4).low (by omega)
   ·rw [I.t.blk b (by omega) (by omega)]; exact e7.blk b hb
  ·have lp : 0 < row.length := List.length_pos_iff.2 c
   have fu := I.f.resolve_left c
   have hc := I.c
   obtain ⟨n', rfl⟩ : ∃ n', n = n' + 1 := ⟨n - 1, by omega⟩
   have d0 := decide_eq_true (show (row.length : Int) > 0 by omega)
   simp (maxSteps := 2000000) -implicitDefEqProofs (disch := (first | omega | rfl | assumption | (simp only [rsD]; first | omega | assumption))) only [reach_Levels_L1, d0, Nat.reduceAdd, Nat.reduceMul, Nat.reduceLT, Int.reduceToNat, Int.reduceAdd, Int.reduceSub, Int.reduceMul, rsU, rsC]
   generalize hJ2 : AH.put _ J'.next _ = J2
   have x2 : J2.next = J'.next + 2 := by rw [<- hJ2]; rfl
   have o2 : ∀ q, q < J'.next -> J2.blk q = J'.blk q := fun q h1 => by rw [<- hJ2]; ((try simp only [rsD] at *); simp -implicitDefEqProofs (disch := (first | omega | rfl | assumption | (simp only [rsD]; first | omega | assumption))) only [s_bs, s_bn, s_kn, bump_blk])
   clear hJ2
   have NR : NB Jo.next J2 r row := B5.of (by omega) fun b h1 h2 => o2 b h2
   have ba := B1.bk
   refine Ok.step (B1.app' (J3 := J2) (m := [row]) (new := [.sl r row.length]) (nid := J'.next + 1) B2 (by omega) (fun b h1 h2 => by rw [o2 b (by omega)]; exact B4 b h1 h2) ⟨SA.bk r ++ [], by have := NR.ow; simpa [rowT] using OwL.cons this .nil (by simp), fun b hb => by
     simp at hb; have := B5.lo b hb; have := B5.o.lt b hb; omega⟩ (by omega) (by omega)) fun q ⟨a2, p1, p2, p3, p4, p5⟩ => ?_
   obtain ⟨q, J3⟩ := q
   simp only at p1 p2 p3 p4
   subst p1
   simp (maxSteps := 2000000) -implicitDefEqProofs (disch := (first | omega | rfl | assumption | (simp only [rsD]; first | omega | assumption))) only [Nat.reduceAdd, Nat.reduceMul, Nat.reduceLT, Int.reduceToNat, Int.reduceAdd, Int.reduceSub, Int.reduceMul, rsU, rsC]
   have o3 : ∀ b, b < J'.next -> b ∉ SA.bk a -> J3.blk b = J'.blk b := fun b h1 h2 => by rw [p4 b (by omega) h2]; exact o2 b h1
   have ol : ∀ b, b < J7.next -> b ≠ J.next + 1 -> J3.blk b = J7.blk b := fun b h1 h2 => by
    rw [o3 b (by omega) fun hm => by have := ba b hm; omega]; exact I.t.blk b h1 h2
   have g3 : J3.blk J.next = some (.cells true 48 [.p (some (.n gb, 0))]) := (ol _ (by omega) (by omega)).trans g7
   have x3 : J3.blk (J.next + 2) = some (.cells true 137 [.mp (some (J.next + 1))]) := (ol _ (by omega) (by omega)).trans x7
   have G3 : GAt J3 gb mb D N := G7.of (by omega) fun b hb hf => ol b hb fun e => hf (e ▸ nf)
   have NR3 : NB Jo.next J3 r row := ⟨NR.o.of (by omega) fun b hm => p4 b (by have := B5.o.lt b hm; omega) fun hm2 => by have := ba b hm2; have := B5.lo b hm; have := B1.bk b hm2; omega, NR.lo⟩
   have le := nexts_le hs row row.length
   rw [List.take_length] at le
   have hle : (nexts D row).length <= 10000000 := by
    have : row.length <= 1000 := by omega
    omega
   refine Ok.step (nexts_ok G3 hs g3 (by omega) NR3.rd (fun b hb => NR3.o.lt b hb) (by omega)) fun q ⟨a4, J4, k1, k2, k3⟩ => ?_
   subst k1
   have x4 := k3.next
   simp (maxSteps := 2000000) -implicitDefEqProofs (disch := (first | omega | rfl | assumption | (simp only [rsD]; first | omega | assumption))) only [Nat.reduceAdd, Nat.reduceMul, Nat.reduceLT, Int.reduceToNat, Int.reduceAdd, Int.reduceSub, Int.reduceMul, rsU, rsC]
   have M4 : MapAt J4 (J.next + 1) met (fun _ => 1) := I.m.of (by rw [k3.blk _ (by omega)]; exact o3 _ (by omega) fun hm => by have := ba _ hm; omega)
   refine Ok.step (fresh_ok (G3.ext k3) ((k3.blk _ (by omega)).trans g3) ((k3.blk _ (by omega)).trans x3) M4 (by omega) (by omega) nf (by omega) (by omega) (by omega) k2.rd (fun b hb => by have := k2.lo b hb; have := k2.o.lt b hb; omega) hle) fun q ⟨a5, j1, j2⟩ => ?_
   obtain ⟨q, J5⟩ := q
   simp only at j1 j2
   subst j1
   have x5 := j2.t.next
   simp (maxSteps := 2000000) -implicitDefEqProofs (disch := (first | omega | rfl | assumption | (simp only [rsD]; first | omega | assumption))) only [Nat.reduceAdd, Nat.reduceMul, Nat.reduceLT, Int.reduceToNat, Int.reduceAdd, Int.reduceSub, Int.reduceMul, rsU, rsC]
   have fp := fresh_props (D := D) (met := met) (l := nexts D row) I.nd I.lv
   have flen : (fresh D met (nexts D row)).2.length = met.length + (fresh D met (nexts D row)).1.length := by rw [fp.1, List.length_append]
   refine Ok_some.2 ⟨n', by omega, rows ++ [row], _, _, a2, a5, J5, by simp, ⟨J3, p2, by omega, by omega, fun b h1 h2 => ?_, j2.r.low (by omega)⟩, j2.m, ⟨by omega, fun b h1 h2 => ?_⟩, fp.2.1, fp.2.2, by omega, ?_, ?_, by simp; omega⟩
   ·rw [j2.t.blk b (by omega) (by omega)]; exact k3.blk b h2
   ·rw [j2.t.blk b (by omega) h2, k3.blk b (by omega)]; exact ol b h1 h2
   ·rw [I.e, lev, if_neg c]; simp
   ·rcases Nat.eq_zero_or_pos (fresh D met (nexts D row)).1.length with z | z
    ·exact Or.inl (List.eq_nil_of_length_eq_zero z)
    ·exact Or.inr (by omega)
 ·rintro _ ⟨a', J', rfl, b1, b2⟩
  simp (maxSteps := 2000000) -implicitDefEqProofs (disch := (first | omega | rfl | assumption | (simp only [rsD]; first | omega | assumption))) only [Nat.reduceAdd, Nat.reduceMul, Nat.reduceLT, Int.reduceToNat, Int.reduceAdd, Int.reduceSub, Int.reduceMul, rsU, rsC]
  exact Ok_some.2 ⟨a', rfl, b1, b2⟩
end Go.Abs.Try
namespace Go.Abs.Try
open Go Go.Abs
theorem freshK_mem {D : List DN} {met l : List Int} {w : Int} : ∀ k, w ∈ (freshK D met l k).1 -> w ∈ l
 | 0, h => by simp [freshK] at h
 | k + 1, h => by
  by_cases c : k < l.length
  ·rw [freshK_succ (List.getElem?_eq_getElem c)] at h
   unfold freshS at h
   split at h
   ·rcases List.mem_append.1 h with h | h
    ·exact freshK_mem k h
    ·simp at h; subst h; exact List.getElem_mem c
   ·exact freshK_mem k h
  ·have : freshK D met l (k + 1) = freshK D met l k := by
    unfold freshK
    rw [List.take_of_length_le (by omega), List.take_of_length_le (by omega)]
   rw [this] at h
   exact freshK_mem k h
theorem fresh_mem {D : List DN} {met l : List Int} {w : Int} (h : w ∈ (fresh D met l).1) : w ∈ l := by
 have := freshK_mem (D := D) (met := met) (l := l) (w := w) l.length
 unfold freshK at this
 rw [List.take_length] at this
 exact this h
theorem freshK_live {D : List DN} {met l : List Int} {w : Int} : ∀ k, w ∈ (freshK D met l k).1 -> (liveAt D w).isSome = true
 | 0, h => by simp [freshK] at h
 | k + 1, h => by
  by_cases c : k < l.length
  ·rw [freshK_succ (List.getElem?_eq_getElem c)] at h
   unfold freshS at h
   split at h
   ·rename_i hc
    rcases List.mem_append.1 h with h | h
    ·exact freshK_live k h
    ·simp at h; subst h; exact hc.1
   ·exact freshK_live k h
  ·have : freshK D met l (k + 1) = freshK D met l k := by
    unfold freshK
    rw [List.take_of_length_le (by omega), List.take_of_length_le (by omega)]
   rw [this] at h
   exact freshK_live k h
theorem fresh_live {D : List DN} {met l : List Int} {w : Int} (h : w ∈ (fresh D met l).1) : (liveAt D w).isSome = true := by
 have := freshK_live (D := D) (met := met) (l := l) (w := w) l.length
 unfold freshK at this
 rw [List.take_length] at this
 exact this h
theorem foldl_fresh_mono {D : List DN} {w : Int} : ∀ (l : List Int) (s : List Int × List Int), w ∈ s.2 -> w ∈ (l.foldl (freshS D) s).2
 | [], _, h => h
 | x :: l, s, h => foldl_fresh_mono l _ (by unfold freshS; split <;> simp [h])
theorem foldl_fresh_all {D : List DN} {w : Int} (hw : (liveAt D w).isSome = true) : ∀ (l : List Int) (s : List Int × List Int), w ∈ l -> w ∈ (l.foldl (freshS D) s).2
 | x :: l, s, h => by
  rcases List.mem_cons.1 h with h | h
  ·subst h
   refine foldl_fresh_mono l _ ?_
   unfold freshS
   by_cases c : w ∈ s.2
   ·rw [if_neg (by simp [c])]; exact c
   ·rw [if_pos ⟨hw, c⟩]; simp
  ·exact foldl_fresh_all hw l _ h
theorem fresh_all {D : List DN} {met l : List Int} {w : Int} (hw : (liveAt D w).isSome = true) (h : w ∈ l) : w ∈ (fresh D met l).2 := foldl_fresh_all hw l _ h
theorem fresh_congr {D D' : List DN} {met l : List Int} (h : ∀ w ∈ l, (liveAt D' w).isSome = (liveAt D w).isSome) : fresh D' met l = fresh D met l := by
 unfold fresh
 generalize (([] : List Int), met) = s
 induction l generalizing s with
 | nil => rfl
 | cons x l ih =>
  simp only [List.foldl_cons]
  rw [show freshS D' s x = freshS D s x by unfold freshS; rw [h x (by simp)]]
  exact ih (fun w hw => h w (by simp [hw])) _
inductive Chain (D : List DN) : List Int -> List Int -> List (List Int) -> Prop
 | nil {met : List Int} : Chain D met [] []
 | cons {met row : List Int} {R : List (List Int)} (h : row ≠ []) (k : Chain D (fresh D met (nexts D row)).2 (fresh D met (nexts D row)).1 R) : Chain D met row (row :: R)
theorem lev_chain {D : List DN} : ∀ (n : Nat) (met row : List Int), met.Nodup -> (∀ m ∈ met, (liveAt D m).isSome = true) -> (row = [] ∨ D.length + 1 <= n + met.length) -> Chain D met row (lev D n met row)
 | 0, met, row, hn, hl, hf => by
  have := met_le hn hl
  rcases hf with rfl | hf
  ·exact .nil
  ·omega
 | n + 1, met, row, hn, hl, hf => by
  unfold lev
  by_cases c : row = []
  ·rw [if_pos c, c]; exact .nil
  ·rw [if_neg c]
   have fp := fresh_props (D := D) (met := met) (l := nexts D row) hn hl
   refine .cons c (lev_chain n _ _ fp.2.1 fp.2.2 ?_)
   have flen : (fresh D met (nexts D row)).2.length = met.length + (fresh D met (nexts D row)).1.length := by rw [fp.1, List.length_append]
   have fu := hf.resolve_left c
   rcases Nat.eq_zero_or_pos (fresh D met (nexts D row)).1.length with z | z
   ·exact Or.inl (List.eq_nil_of_length_eq_zero z)
   ·exact Or.inr (by omega)
theorem Chain.head {D : List DN} {met row : List Int} {R : List (List Int)} (h : Chain D met row R) : ∀ w ∈ row, R[0]? = some row := by
 cases h with
 | nil => simp
 | cons => simp
theorem Chain.head' {D : List DN} {met row r : List Int} {R : List (List Int)} (h : Chain D met row R) (k : R[0]? = some r) : r = row := by
 cases h with
 | nil => simp at k
 | cons => simp at k; exact k.symm
theorem Chain.sub {D : List DN} {met row : List Int} {R : List (List Int)} (h : Chain D met row R) : ∀ w ∈ row, w ∈ R.flatten := by
 cases h with
 | nil => simp
 | cons => intro w hw; simp [hw]
theorem Chain.nodup {D : List DN} {met row : List Int} {R : List (List Int)} (h : Chain D met row R) : ∀ {old : List Int}, met = old ++ row -> met.Nodup -> (∀ m ∈ met, (liveAt D m).isSome = true) -> (old ++ R.flatten).Nodup /\ ∀ m ∈ R.flatten, (liveAt D m).isSome = true := by
 induction h with
 | nil => intro old e h1 h2; subst e; simp at h1; simp; exact h1
 | @cons met row R hr k ih =>
  intro old e h1 h2
  have fp := fresh_props (D := D) (met := met) (l := nexts D row) h1 h2
  obtain ⟨i1, i2⟩ := ih (old := met) fp.1 fp.2.1 fp.2.2
  refine ⟨by rw [List.flatten_cons, <- List.append_assoc, <- e]; exact i1, fun m hm => ?_⟩
  rw [List.flatten_cons] at hm
  rcases List.mem_append.1 hm with hm | hm
  ·exact h2 m (by rw [e]; simp [hm])
  ·exact i2 m hm
theorem mem_nexts {D : List DN} {row : List Int} {w : Int} : w ∈ nexts D row ↔ ∃ v ∈ row, w ∈ edgesD D v := by unfold nexts; simp
theorem Chain.closed {D : List DN} {met row : List Int} {R : List (List Int)} (h : Chain D met row R) : ∀ {old : List Int}, met = old ++ row -> met.Nodup -> (∀ m ∈ met, (liveAt D m).isSome = true) -> ∀ v ∈ R.flatten, ∀ w ∈ edgesD D v, (liveAt D w).isSome = true -> w ∈ old ++ R.flatten := by
 induction h with
 | nil => intro old e h1 h2 v hv; simp at hv
 | @cons met row R hr k ih =>
  intro old e h1 h2 v hv w hw lw
  have fp := fresh_props (D := D) (met := met) (l := nexts D row) h1 h2
  rw [List.flatten_cons] at hv ⊢
  rw [<- List.append_assoc, <- e]
  rcases List.mem_append.1 hv with hv | hv
  ·have := fresh_all (met := met) lw (mem_nexts.2 ⟨v, hv, hw⟩)
   rw [fp.1] at this
   rcases List.mem_append.1 this with this | this
   ·simp [this]
   ·exact List.mem_append_right _ (k.sub w this)
  ·exact ih (old := met) fp.1 fp.2.1 fp.2.2 v hv w hw lw
theorem Chain.from {D : List DN} {met row : List Int} {R : List (List Int)} (h : Chain D met row R) : ∀ {i : Nat} {r r' : List Int} {w : Int}, R[i]? = some r -> R[i + 1]? = some r' -> w ∈ r' -> ∃ v ∈ r, w ∈ edgesD D v := by
 induction h with
 | nil => intro i r r' w h; simp at h
 | @cons met row R hr k ih =>
  intro i r r' w h1 h2 hw
  rw [List.getElem?_cons_succ] at h2
  cases i with
  | zero =>
   simp at h1; subst h1
   have := k.head' h2
   subst this
   exact mem_nexts.1 (fresh_mem hw)
  | succ i => rw [List.getElem?_cons_succ] at h1; exact ih h1 h2 hw
theorem flat_same : ∀ {R : List (List Int)}, R.flatten.Nodup -> ∀ {i j : Nat} {r r' : List Int} {w : Int}, R[i]? = some r -> R[j]? = some r' -> w ∈ r -> w ∈ r' -> i = j
 | [], _, i, j, r, r', w, h, _, _, _ => by simp at h
 | x :: R, hn, i, j, r, r', w, h1, h2, hw, hw' => by
  rw [List.flatten_cons, List.nodup_append] at hn
  obtain ⟨_, n2, n3⟩ := hn
  cases i with
  | zero =>
   cases j with
   | zero => rfl
   | succ j => simp at h1; subst h1; rw [List.getElem?_cons_succ] at h2; exact absurd rfl (n3 w hw w (List.mem_flatten.2 ⟨r', List.mem_of_getElem? h2, hw'⟩))
  | succ i =>
   rw [List.getElem?_cons_succ] at h1
   cases j with
   | zero => simp at h2; subst h2; exact absurd rfl (n3 w hw' w (List.mem_flatten.2 ⟨r, List.mem_of_getElem? h1, hw⟩))
   | succ j => rw [List.getElem?_cons_succ] at h2; exact congrArg (· + 1) (flat_same n2 h1 h2 hw hw')
theorem Chain.near {D : List DN} {met row : List Int} {R : List (List Int)} (h : Chain D met row R) : ∀ {old : List Int}, met = old ++ row -> met.Nodup -> (∀ m ∈ met, (liveAt D m).isSome = true) -> ∀ {i j : Nat} {r r' : List Int} {v w : Int}, R[j]? = some r -> R[i]? = some r' -> v ∈ r -> w ∈ r' -> w ∈ edgesD D v -> i <= j + 1 := by
 induction h with
 | nil => intro old e h1 h2 i j r r' v w h; simp at h
 | @cons met row R hr k ih =>
  intro old e h1 h2 i j r r' v w hj hi hv hw hvw
  have fp := fresh_props (D := D) (met := met) (l := nexts D row) h1 h2
  have nd := k.nodup (old := met) fp.1 fp.2.1 fp.2.2
  cases i with
  | zero => omega
  | succ i =>
   rw [List.getElem?_cons_succ] at hi
   cases j with
   | succ j => rw [List.getElem?_cons_succ] at hj; have := ih (old := met) fp.1 fp.2.1 fp.2.2 hj hi hv hw hvw; omega
   | zero =>
    simp at hj; subst hj
    have wf : w ∈ R.flatten := List.mem_flatten.2 ⟨r', List.mem_of_getElem? hi, hw⟩
    have := fresh_all (met := met) (nd.2 w wf) (mem_nexts.2 ⟨v, hv, hvw⟩)
    rw [fp.1] at this
    obtain ⟨_, nf, n3⟩ := List.nodup_append.1 nd.1
    rcases List.mem_append.1 this with this | this
    ·exact absurd rfl (n3 w this w wf)
    ·have := flat_same nf hi (k.head w this) hw this
     omega
theorem levels_chain (D : List DN) (roots : List Int) : Chain D (fresh D [] roots).2 (fresh D [] roots).1 (levelsD D roots) /\ (fresh D [] roots).2 = [] ++ (fresh D [] roots).1 /\ (fresh D [] roots).2.Nodup /\ ∀ m ∈ (fresh D [] roots).2, (liveAt D m).isSome = true := by
 have fp := fresh_props (D := D) (met := []) (l := roots) (by simp) (by simp)
 exact ⟨lev_chain _ _ _ fp.2.1 fp.2.2 (Or.inr (by omega)), fp⟩
theorem levels_nodup (D : List DN) (roots : List Int) : (levelsD D roots).flatten.Nodup := by
 obtain ⟨h, h1, h2, h3⟩ := levels_chain D roots
 simpa using (h.nodup h1 h2 h3).1
theorem levels_live {D : List DN} {roots : List Int} {m : Int} (hm : m ∈ (levelsD D roots).flatten) : (liveAt D m).isSome = true := by
 obtain ⟨h, h1, h2, h3⟩ := levels_chain D roots
 exact (h.nodup h1 h2 h3).2 m hm
theorem levels_root {D : List DN} {roots : List Int} {m : Int} (hm : m ∈ roots) (hl : (liveAt D m).isSome = true) : m ∈ (levelsD D roots).flatten := by
 obtain ⟨h, h1, h2, h3⟩ := levels_chain D roots
 have := fresh_all (met := []) hl hm
 rw [h1] at this
 exact h.sub m (by simpa using this)
theorem levels_closed {D : List DN} {roots : List Int} {v w : Int} (hv : v ∈ (levelsD D roots).flatten) (hw : w ∈ edgesD D v) (hl : (liveAt D w).isSome = true) : w ∈ (levelsD D roots).flatten := by
 obtain ⟨h, h1, h2, h3⟩ := levels_chain D roots
 simpa using h.closed h1 h2 h3 v hv w hw hl
theorem levels_from {D : List DN} {roots : List Int} {i : Nat} {r r' : List Int} {w : Int} (h : (levelsD D roots)[i]? = some r) (h' : (levelsD D roots)[i + 1]? = some r') (hw : w ∈ r') : ∃ v ∈ r, w ∈ edgesD D v :=
 (levels_chain D roots).1.from h h' hw
theorem levels_near {D : List DN} {roots : List Int} {i j : Nat} {r r' : List Int} {v w : Int} (hj : (levelsD D roots)[j]? = some r) (hi : (levelsD D roots)[i]? = some r') (hv : v ∈ r) (hw : w ∈ r') (h : w ∈ edgesD D v) : i <= j + 1 := by
 obtain ⟨k, h1, h2, h3⟩ := levels_chain D roots
 exact k.near h1 h2 h3 hj hi hv hw h
theorem lev_congr {D D' : List DN} (M : Int -> Prop) (h1 : ∀ w, M w -> (liveAt D' w).isSome = true) (h2 : ∀ w, (liveAt D' w).isSome = true -> (liveAt D w).isSome = true) (h3 : ∀ v, M v -> edgesD D' v = edgesD D v) (h4 : ∀ v, M v -> ∀ w ∈ edgesD D v, (liveAt D w).isSome = true -> M w) :
  ∀ n met row, (∀ v ∈ row, M v) -> lev D' n met row = lev D n met row
 | 0, _, _, _ => rfl
 | n + 1, met, row, hr => by
  have e : nexts D' row = nexts D row := by
   unfold nexts
   rw [List.flatMap_def, List.flatMap_def, List.map_congr_left fun v hv => h3 v (hr v hv)]
  have f : fresh D' met (nexts D row) = fresh D met (nexts D row) := fresh_congr fun w hw => by
   obtain ⟨v, hv, hvw⟩ := mem_nexts.1 hw
   cases q : (liveAt D w).isSome with
   | true => exact h1 w (h4 v (hr v hv) w hvw q)
   | false => cases q2 : (liveAt D' w).isSome with
    | true => rw [h2 w q2] at q; cases q
    | false => rfl
  unfold lev
  rw [e, f]
  by_cases c : row = []
  ·rw [if_pos c, if_pos c]
  ·rw [if_neg c, if_neg c]
   congr 1
   refine lev_congr M h1 h2 h3 h4 n _ _ fun w hw => ?_
   obtain ⟨v, hv, hvw⟩ := mem_nexts.1 (fresh_mem hw)
   exact h4 v (hr v hv) w hvw (fresh_live hw)
theorem levels_congr {D D' : List DN} {roots : List Int} (hl : D'.length = D.length) (h1 : ∀ w ∈ (levelsD D roots).flatten, (liveAt D' w).isSome = true) (h2 : ∀ w, (liveAt D' w).isSome = true -> (liveAt D w).isSome = true) (h3 : ∀ v ∈ (levelsD D roots).flatten, edgesD D' v = edgesD D v) : levelsD D' roots = levelsD D roots := by
 have f : fresh D' [] roots = fresh D [] roots := fresh_congr fun w hw => by
  cases q : (liveAt D w).isSome with
  | true => exact h1 w (levels_root hw q)
  | false => cases q2 : (liveAt D' w).isSome with
   | true => rw [h2 w q2] at q; cases q
   | false => rfl
 have key := lev_congr (D := D) (D' := D') (· ∈ (levelsD D roots).flatten) h1 h2 h3 (fun v hv w hw hl => levels_closed hv hw hl) (2 + D.length) (fresh D [] roots).2 (fresh D [] roots).1 fun v hv => (levels_chain D roots).1.sub v hv
 unfold levelsD
 rw [f, hl]
 exact key
end Go.Abs.Try
namespace Go.Abs.Try
open Go Go.Abs
variable {O : Type}
theorem row_at {base : Nat} {J : AH O} {a : SA} {rows : List (List Int)} (h : BldO base J 25 1 rowT a rows) {i : Nat} {row : List Int} (hi : rows[i]? = some row) : ∃ b a2, a = .loc (.n b) 0 1 /\ base <= b /\ b < J.next /\ ldM (J.blk b) i = some (.sl a2 row.length) /\ Rd J 1 a2 row.length (row.map (.i .i64)) /\ ∀ c ∈ SA.bk a2, base <= c /\ c < J.next := by
 obtain ⟨b, us, L, rfl, h1, h2, h3, h4, h5⟩ := h.get hi
 have h6 := h5 0 (by omega)
 obtain ⟨v, L', g1, g2, g3⟩ := h3.get (i := 0) (t := intsT 3 .i64 row) rfl
 obtain ⟨a2, vs, L2, rfl, r1, r2, r3, r4⟩ := g2.rd
 rw [int1_flat] at r2
 obtain ⟨rfl, _⟩ := r2.ofLeaves
 rw [g1] at h6
 have h7 : J.ld (.n b) i = some (.sl a2 row.length) := by simpa using h6
 refine ⟨b, a2, rfl, h1, h2, h7, r1, fun c hc => ?_⟩
 have := h4 c (g3 c (r4 c hc))
 exact ⟨this.1, this.2.1⟩
def wayV (rows : List (List Int)) (id : Int) : Int := (rows.findIdx (fun r => decide (id ∈ r)) : Nat) + 1
theorem wayV_at {rows : List (List Int)} (hn : rows.flatten.Nodup) {i : Nat} {row : List Int} {id : Int} (hi : rows[i]? = some row) (hm : id ∈ row) : wayV rows id = (i : Int) + 1 := by
 unfold wayV
 have hl : rows.findIdx (fun r => decide (id ∈ r)) < rows.length := List.findIdx_lt_length_of_exists ⟨row, List.mem_of_getElem? hi, by simpa using hm⟩
 have hg := List.findIdx_getElem (w := hl)
 simp only [decide_eq_true_eq] at hg
 rw [flat_same hn (List.getElem?_eq_getElem hl) hi hg hm]
theorem wayV_pos (rows : List (List Int)) (id : Int) : 1 <= wayV rows id := by unfold wayV; omega
def markW (D : List DN) (roots : List Int) (id : Int) : Int := if id ∈ (levelsD D roots).flatten then wayV (levelsD D roots) id else 0
theorem MapAt.look {J : AH O} {mm : Nat} {l : List Int} {v : Int -> Int} (h : MapAt J mm l v) (id : Int) : ∃ f, findM .i64 id (l.map (kv v)) = some f /\ lookV f (.i .i64 0) = .i .i64 (if id ∈ l then v id else 0) := by
 by_cases c : id ∈ l
 ·exact ⟨_, findK_hit v l c, by rw [if_pos c]; rfl⟩
 ·exact ⟨_, findK_miss v l c, by rw [if_neg c]; rfl⟩
structure One (mm : Nat) (J J' : AH O) : Prop where
 next : J'.next = J.next
 blk : ∀ b, b ≠ mm -> J'.blk b = J.blk b
theorem marked_ok {J : AH O} {gb mb : Nat} {D : List DN} {N : Nat -> Nat} (G : GAt J gb mb D N) (hs : Small36 D) {a : SA} {roots : List Int} (rl : Rd J 1 a roots.length (roots.map (.i .i64))) (rb : ∀ b ∈ SA.bk a, b < J.next) (hl : roots.length <= 1000) :
  Ok (reach_marked [.p (some (.n gb, 0)), .sl a roots.length] J) fun r => r.1 = .mp (some J.next) /\ MapAt r.2 J.next (levelsD D roots).flatten (wayV (levelsD D roots)) /\ Ext J r.2 /\ J.next < r.2.next := by
 have hn := hs.n
 simp (maxSteps := 2000000) -implicitDefEqProofs (disch := (first | omega | rfl | assumption | (simp only [rsD]; first | omega | assumption))) only [reach_marked, reach_marked_c, Nat.reduceAdd, Nat.reduceMul, Nat.reduceLT, Int.reduceToNat, Int.reduceAdd, Int.reduceSub, Int.reduceMul, rsU, rsC]
 generalize hJ3 : AH.put _ J.next _ = J3
 have n3 : J3.next = J.next + 1 := by rw [<- hJ3]; rfl
 have m3 : J3.blk J.next = some (.map [] [] 0) := by rw [<- hJ3]; ((try simp only [rsD] at *); simp -implicitDefEqProofs (disch := (first | omega | rfl | assumption | (simp only [rsD]; first | omega | assumption))) only [s_bs, s_bn, s_kn, bump_blk])
 have e3 : Ext J J3 := ⟨by omega, fun b hb => by rw [<- hJ3]; ((try simp only [rsD] at *); simp -implicitDefEqProofs (disch := (first | omega | rfl | assumption | (simp only [rsD]; first | omega | assumption))) only [s_bs, s_bn, s_kn, bump_blk])⟩
 clear hJ3
 refine Ok.step (glevels_ok (G.ext e3) hs (rl.of fun b hb => e3.blk b (rb b hb)) (fun b hb => by have := rb b hb; omega) hl) fun q ⟨a4, q1, q2, q3⟩ => ?_
 obtain ⟨q, J4⟩ := q
 simp only at q1 q2 q3
 subst q1
 have x4 := q3.next
 have nd := levels_nodup D roots
 have ml : (levelsD D roots).flatten.length <= D.length := met_le nd fun m hm => levels_live hm
 have rn : (levelsD D roots).length <= D.length + 2 := by
  obtain ⟨n, hn⟩ : ∃ n, n = 2 + D.length := ⟨_, rfl⟩
  unfold levelsD
  rw [<- hn]
  have : ∀ (n : Nat) (met row : List Int), (lev D n met row).length <= n := by
   intro n
   induction n with
   | zero => intros; simp [lev]
   | succ n ih =>
    intro met row
    unfold lev
    split
    ·simp
    ·have := ih (fresh D met (nexts D row)).2 (fresh D met (nexts D row)).1
     simp; omega
  have := this n (fresh D [] roots).2 (fresh D [] roots).1
  omega
 generalize levelsD D roots = rows at *
 have M0 : MapAt J4 J.next [] (wayV rows) := ⟨[], 0, (q3.blk _ (by omega)).trans m3⟩
 simp (maxSteps := 2000000) -implicitDefEqProofs (disch := (first | omega | rfl | assumption | (simp only [rsD]; first | omega | assumption))) only [Nat.reduceAdd, Nat.reduceMul, Nat.reduceLT, Int.reduceToNat, Int.reduceAdd, Int.reduceSub, Int.reduceMul, rsU, rsC]
 refine Ok.step (Ok.count rows.length (fun k s => ∃ J', s = ([.i .i64 (k : Int)], J') /\ MapAt J' J.next (rows.take k).flatten (wayV rows) /\ One J.next J4 J') (Q := fun r => ∃ J', r = ([], J') /\ MapAt J' J.next rows.flatten (wayV rows) /\ One J.next J4 J') ?_ ?_ ⟨J4, rfl, by simpa using M0, ⟨rfl, fun _ _ => rfl⟩⟩) ?_
 ·rintro k s hk ⟨J', rfl, M, U⟩
  obtain ⟨row, hrow⟩ : ∃ row, rows[k]? = some row := ⟨_, List.getElem?_eq_getElem hk⟩
  have dk := decide_eq_true (show (k : Int) < (rows.length : Int) by omega)
  have B' : BldO J3.next J' 25 1 rowT a4 rows := q2.keep (by have := U.next; omega) fun b h1 h2 => U.blk b (by omega)
  obtain ⟨b, a2, rfl, b1, b2, b3, b4, b5⟩ := row_at B' hrow
  have un := U.next
  have rle : row.length <= D.length := by
   have := (List.sublist_flatten_of_mem (List.mem_of_getElem? hrow)).length_le
   omega
  have g0 : (rows.take (k + 1)).flatten = (rows.take k).flatten ++ row := by rw [List.take_add_one, hrow, List.flatten_append]; simp
  simp (maxSteps := 2000000) -implicitDefEqProofs (disch := (first | omega | rfl | assumption | (simp only [rsD]; first | omega | assumption))) only [reach_marked_L1, dk, b3, Nat.reduceAdd, Nat.reduceMul, Nat.reduceLT, Int.reduceToNat, Int.reduceAdd, Int.reduceSub, Int.reduceMul, rsU, rsC]
  refine Ok.step (Ok.count row.length (fun j s => ∃ J2, s = ([.i .i64 (j : Int)], J2) /\ MapAt J2 J.next ((rows.take k).flatten ++ row.take j) (wayV rows) /\ One J.next J4 J2) (Q := fun r => ∃ J2, r = ([], J2) /\ MapAt J2 J.next ((rows.take k).flatten ++ row) (wayV rows) /\ One J.next J4 J2) ?_ ?_ ⟨J', rfl, by simpa using M, U⟩) ?_
  ·rintro j s hj ⟨J2, rfl, M2, U2⟩
   obtain ⟨id, hid⟩ : ∃ id, row[j]? = some id := ⟨_, List.getElem?_eq_getElem hj⟩
   have un2 := U2.next
   have r2 : Rd J2 1 a2 row.length (row.map (.i .i64)) := b4.of fun c hc => by rw [U2.blk c (by have := b5 c hc; omega), U.blk c (by have := b5 c hc; omega)]
   obtain ⟨c, o, rfl, ld⟩ := r2.at1 (i := j) (v := .i .i64 id) (by rw [List.getElem?_map, hid]; rfl)
   rw [Nat.mul_one] at ld
   have dj := decide_eq_true (show (j : Int) < (row.length : Int) by omega)
   have me := M2.ents
   have wv := wayV_at nd hrow (List.mem_of_getElem? hid)
   have nm : id ∉ (rows.take k).flatten ++ row.take j := by
    have sub : ((rows.take k).flatten ++ row.take (j + 1)).Nodup := by
     have h1 : ((rows.take (k + 1)).flatten).Nodup := by
      have := nd
      rw [<- List.take_append_drop (k + 1) rows, List.flatten_append] at this
      exact (List.nodup_append.1 this).1
     rw [g0] at h1
     rw [<- List.take_append_drop (j + 1) row, <- List.append_assoc] at h1
     exact (List.nodup_append.1 h1).1
    rw [take_snoc hid, <- List.append_assoc] at sub
    have := (List.nodup_append.1 sub).2.2
    exact fun h => this id h id (by simp) rfl
   have f := findK_miss (wayV rows) _ nm
   obtain ⟨st, cc, hm⟩ := M2
   have up := updB_none (k := .i .i64 id) (v := .i .i64 ((k : Int) + 1)) hm
   simp (maxSteps := 2000000) -implicitDefEqProofs (disch := (first | omega | rfl | assumption | (simp only [rsD]; first | omega | assumption))) only [reach_marked_L2, dj, ld, me, f, up, Nat.reduceAdd, Nat.reduceMul, Nat.reduceLT, Int.reduceToNat, Int.reduceAdd, Int.reduceSub, Int.reduceMul, rsU, rsC]
   refine Ok_some.2 ⟨_, rfl, ⟨st ++ [cc], cc + 1, ?_⟩, ⟨by simp only [rsD]; exact un2, fun q hq => ?_⟩⟩
   ·rw [s_bs, take_snoc hid]
    simp [kv, wv]
   ·rw [s_bn hq]; exact U2.blk q hq
  ·rintro s ⟨J2, rfl, M2, U2⟩
   simp (maxSteps := 2000000) -implicitDefEqProofs (disch := (first | omega | rfl | assumption | (simp only [rsD]; first | omega | assumption))) only [reach_marked_L2, Nat.reduceAdd, Nat.reduceMul, Nat.reduceLT, Int.reduceToNat, Int.reduceAdd, Int.reduceSub, Int.reduceMul, rsU, rsC]
   rw [List.take_length] at M2
   exact Ok_some.2 ⟨J2, rfl, M2, U2⟩
  ·rintro _ ⟨J2, rfl, M2, U2⟩
   simp (maxSteps := 2000000) -implicitDefEqProofs (disch := (first | omega | rfl | assumption | (simp only [rsD]; first | omega | assumption))) only [Nat.reduceAdd, Nat.reduceMul, Nat.reduceLT, Int.reduceToNat, Int.reduceAdd, Int.reduceSub, Int.reduceMul, rsU, rsC]
   exact Ok_some.2 ⟨J2, rfl, by rw [g0]; exact M2, U2⟩
 ·rintro s ⟨J', rfl, M, U⟩
  simp (maxSteps := 2000000) -implicitDefEqProofs (disch := (first | omega | rfl | assumption | (simp only [rsD]; first | omega | assumption))) only [reach_marked_L1, Nat.reduceAdd, Nat.reduceMul, Nat.reduceLT, Int.reduceToNat, Int.reduceAdd, Int.reduceSub, Int.reduceMul, rsU, rsC]
  rw [List.take_length] at M
  exact Ok_some.2 ⟨J', rfl, M, U⟩
 ·rintro _ ⟨J', rfl, M, U⟩
  simp (maxSteps := 2000000) -implicitDefEqProofs (disch := (first | omega | rfl | assumption | (simp only [rsD]; first | omega | assumption))) only [Nat.reduceAdd, Nat.reduceMul, Nat.reduceLT, Int.reduceToNat, Int.reduceAdd, Int.reduceSub, Int.reduceMul, rsU, rsC]
  refine Ok_some.2 ⟨rfl, M, ⟨by show J.next <= J'.next; have := U.next; omega, fun b hb => ?_⟩, by show J.next < J'.next; have := U.next; omega⟩
  rw [U.blk b (by omega), q3.blk b (by omega)]
  exact e3.blk b hb
end Go.Abs.Try
namespace Go.Abs.Try
open Go Go.Abs
variable {O : Type}
def heldB (D : List DN) (roots : List Int) (id : Int) : Bool := decide (id ∈ (levelsD D roots).flatten)
def goneB (D : List DN) (roots : List Int) (id : Int) : Bool := !heldB D roots id
def fromD (D : List DN) (roots : List Int) : List Int := (idsD D).filter (heldB D roots)
def lostD (D : List DN) (roots : List Int) : List Int := (idsD D).filter (goneB D roots)
theorem ids_le {D : List DN} : (idsD D).length <= D.length := by
 unfold idsD liveL
 rw [List.length_map]
 exact Nat.le_trans (List.length_filter_le _ _) (by simp)
theorem MapAt.ext {J J' : AH O} {mm : Nat} {l : List Int} {v : Int -> Int} (h : MapAt J mm l v) (hb : mm < J.next) (e : Ext J J') : MapAt J' mm l v := h.of (e.blk mm hb)
theorem from_ok {J : AH O} {gb mb : Nat} {D : List DN} {N : Nat -> Nat} (G : GAt J gb mb D N) (hs : Small36 D) {a : SA} {roots : List Int} (rl : Rd J 1 a roots.length (roots.map (.i .i64))) (rb : ∀ b ∈ SA.bk a, b < J.next) (hl : roots.length <= 1000) :
  Ok (reach_From [.p (some (.n gb, 0)), .sl a roots.length] J) fun r => ∃ a', r.1 = .sl a' (fromD D roots).length /\ NI J r.2 a' (fromD D roots) := by
 have hn := hs.n
 have il := ids_le (D := D)
 simp (maxSteps := 2000000) -implicitDefEqProofs (disch := (first | omega | rfl | assumption | (simp only [rsD]; first | omega | assumption))) only [reach_From, reach_From_c, Nat.reduceAdd, Nat.reduceMul, Nat.reduceLT, Int.reduceToNat, Int.reduceAdd, Int.reduceSub, Int.reduceMul, rsU, rsC]
 refine Ok.step (marked_ok G hs rl rb hl) fun q ⟨q1, q2, q3, q4⟩ => ?_
 obtain ⟨q, J1⟩ := q
 simp only at q1 q2 q3
 have mn : J.next < J1.next := q4
 subst q1
 simp (maxSteps := 2000000) -implicitDefEqProofs (disch := (first | omega | rfl | assumption | (simp only [rsD]; first | omega | assumption))) only [s_mp, Nat.reduceAdd, Nat.reduceMul, Nat.reduceLT, Int.reduceToNat, Int.reduceAdd, Int.reduceSub, Int.reduceMul, rsU, rsC]
 have x1 := q3.next
 refine Ok.step (gids_ok (G.ext q3) hs) fun q ⟨a3, k1, k2⟩ => ?_
 obtain ⟨q, J2⟩ := q
 simp only at k1 k2
 subst k1
 simp (maxSteps := 2000000) -implicitDefEqProofs (disch := (first | omega | rfl | assumption | (simp only [rsD]; first | omega | assumption))) only [Nat.reduceAdd, Nat.reduceMul, Nat.reduceLT, Int.reduceToNat, Int.reduceAdd, Int.reduceSub, Int.reduceMul, rsU, rsC]
 have M2 := q2.ext mn k2.e
 unfold fromD
 generalize idsD D = ids at *
 refine Ok.step (Ok.count ids.length (fun k s => ∃ a' J', s = ([.sl a' ((ids.take k).filter (heldB D roots)).length, .i .i64 (k : Int)], J') /\ NI J2 J' a' ((ids.take k).filter (heldB D roots))) (Q := fun r => ∃ a' J', r = ([.sl a' (ids.filter (heldB D roots)).length], J') /\ NI J2 J' a' (ids.filter (heldB D roots))) ?_ ?_ ?_) ?_
 ·rintro k s hk ⟨a', J', rfl, M⟩
  obtain ⟨id, hid⟩ : ∃ id, ids[k]? = some id := ⟨_, List.getElem?_eq_getElem hk⟩
  have rk : Rd J' 1 a3 ids.length (ids.map (.i .i64)) := k2.rd.of fun b hb => M.e.blk b (k2.o.lt b hb)
  obtain ⟨b, o, rfl, ld⟩ := rk.at1 (i := k) (v := .i .i64 id) (by rw [List.getElem?_map, hid]; rfl)
  rw [Nat.mul_one] at ld
  have dk := decide_eq_true (show (k : Int) < (ids.length : Int) by omega)
  have lf : ((ids.take k).filter (heldB D roots)).length <= 5000 := by have := List.length_filter_le (heldB D roots) (ids.take k); simp at this; omega
  have me := (M2.ext (by have := k2.e.next; omega) M.e).ents
  obtain ⟨f, f1, f2⟩ := (M2.ext (by have := k2.e.next; omega) M.e).look id
  by_cases c : id ∈ (levelsD D roots).flatten
  ·rw [if_pos c] at f2
   have wp := wayV_pos (levelsD D roots) id
   have q0 := decide_eq_true (show wayV (levelsD D roots) id > 0 by omega)
   have hb : heldB D roots id = true := by unfold heldB; exact decide_eq_true c
   simp (maxSteps := 2000000) -implicitDefEqProofs (disch := (first | omega | rfl | assumption | (simp only [rsD]; first | omega | assumption))) only [reach_From_L1, dk, ld, me, f1, f2, q0, Nat.reduceAdd, Nat.reduceMul, Nat.reduceLT, Int.reduceToNat, Int.reduceAdd, Int.reduceSub, Int.reduceMul, rsU, rsC]
   have E : Ext J' ((J'.bump 2).put J'.next (.cells true 3 [.i .i64 id])) := (ext_of (by simp only [put_next, bump_next, kill_next]; omega) (fun b hb => by simp -implicitDefEqProofs (disch := (first | omega | rfl | assumption | (simp only [rsD]; first | omega | assumption))) only [s_bn, s_kn, bump_blk, s_ext]))
   refine Ok.step (M.push (nid := J'.next + 1) (v := id) E (by omega) (by show _ < J'.next + 2; omega)) fun q ⟨a2, q1, q2, q3⟩ => ?_
   obtain ⟨q, J3⟩ := q
   simp only at q1 q2
   subst q1
   simp (maxSteps := 2000000) -implicitDefEqProofs (disch := (first | omega | rfl | assumption | (simp only [rsD]; first | omega | assumption))) only [Nat.reduceAdd, Nat.reduceMul, Nat.reduceLT, Int.reduceToNat, Int.reduceAdd, Int.reduceSub, Int.reduceMul, rsU, rsC]
   have ef : (ids.take (k + 1)).filter (heldB D roots) = (ids.take k).filter (heldB D roots) ++ [id] := by rw [take_snoc hid, List.filter_append]; simp [hb]
   refine Ok_some.2 ⟨a2, J3, ?_, ?_⟩
   ·rw [ef]; rfl
   ·rw [ef]; exact q2
  ·rw [if_neg c] at f2
   have q0 := decide_eq_false (show ¬ (0 : Int) > 0 by omega)
   have hb : heldB D roots id = false := by unfold heldB; exact decide_eq_false c
   simp (maxSteps := 2000000) -implicitDefEqProofs (disch := (first | omega | rfl | assumption | (simp only [rsD]; first | omega | assumption))) only [reach_From_L1, dk, ld, me, f1, f2, q0, Nat.reduceAdd, Nat.reduceMul, Nat.reduceLT, Int.reduceToNat, Int.reduceAdd, Int.reduceSub, Int.reduceMul, rsU, rsC]
   have ef : (ids.take (k + 1)).filter (heldB D roots) = (ids.take k).filter (heldB D roots) := by rw [take_snoc hid, List.filter_append]; simp [hb]
   exact Ok_some.2 ⟨a', J', by rw [ef]; rfl, by rw [ef]; exact M⟩
 ·rintro s ⟨a', J', rfl, M⟩
  simp (maxSteps := 2000000) -implicitDefEqProofs (disch := (first | omega | rfl | assumption | (simp only [rsD]; first | omega | assumption))) only [reach_From_L1, Nat.reduceAdd, Nat.reduceMul, Nat.reduceLT, Int.reduceToNat, Int.reduceAdd, Int.reduceSub, Int.reduceMul, rsU, rsC]
  rw [List.take_length] at M
  exact Ok_some.2 ⟨a', J', rfl, M⟩
 ·exact ⟨.nil, J2, rfl, NI.nil J2⟩
 ·rintro _ ⟨a', J', rfl, M⟩
  simp (maxSteps := 2000000) -implicitDefEqProofs (disch := (first | omega | rfl | assumption | (simp only [rsD]; first | omega | assumption))) only [Nat.reduceAdd, Nat.reduceMul, Nat.reduceLT, Int.reduceToNat, Int.reduceAdd, Int.reduceSub, Int.reduceMul, rsU, rsC]
  exact Ok_some.2 ⟨a', rfl, M.low (q3.trans k2.e)⟩
end Go.Abs.Try
namespace Go.Abs.Try
open Go Go.Abs
variable {O : Type}
theorem way_ok {J : AH O} {gb mb : Nat} {D : List DN} {N : Nat -> Nat} (G : GAt J gb mb D N) (hs : Small36 D) {x y : Int} :
  Ok (reach_Way [.p (some (.n gb, 0)), .i .i64 x, .i .i64 y] J) fun r => r.1 = .i .i64 (IntKind.i64.wrap (markW D [x] y - 1)) /\ Ext J r.2 := by
 simp (maxSteps := 2000000) -implicitDefEqProofs (disch := (first | omega | rfl | assumption | (simp only [rsD]; first | omega | assumption))) only [reach_Way, reach_Way_c, Nat.reduceAdd, Nat.reduceMul, Nat.reduceLT, Int.reduceToNat, Int.reduceAdd, Int.reduceSub, Int.reduceMul, rsU, rsC]
 have E : Ext J ((J.bump 1).put J.next (.cells true 3 [.i .i64 x])) := (ext_of (by simp only [put_next, bump_next, kill_next]; omega) (fun b hb => by simp -implicitDefEqProofs (disch := (first | omega | rfl | assumption | (simp only [rsD]; first | omega | assumption))) only [s_bn, s_kn, bump_blk, s_ext]))
 have hb : ((J.bump 1).put J.next (.cells true 3 [.i .i64 x])).blk J.next = some (.cells true 3 ([x].map (.i .i64))) := s_bs
 have o : OwnS ((J.bump 1).put J.next (.cells true 3 [.i .i64 x])) 3 1 (.loc (.n J.next) 0 1) [x].length ([x].map (AV.i .i64)) := OwnS.new (by simp) hb (by show _ < J.next + 1; omega)
 refine Ok.step (marked_ok (G.ext E) hs (roots := [x]) o.rd (fun b hb => o.lt b hb) (by simp)) fun q ⟨q1, q2, q3, q4⟩ => ?_
 obtain ⟨q, J1⟩ := q
 simp only at q1 q2 q3
 subst q1
 have me := q2.ents
 obtain ⟨f, f1, f2⟩ := q2.look y
 simp only [rsD] at me f1
 simp (maxSteps := 2000000) -implicitDefEqProofs (disch := (first | omega | rfl | assumption | (simp only [rsD]; first | omega | assumption))) only [s_mp, me, f1, f2, Nat.reduceAdd, Nat.reduceMul, Nat.reduceLT, Int.reduceToNat, Int.reduceAdd, Int.reduceSub, Int.reduceMul, rsU, rsC]
 exact Ok_some.2 ⟨rfl, E.trans q3⟩
def dropsD (D : List DN) (l : List Int) : List DN := l.foldl (fun D id => (dropD D id).1) D
theorem dropD_len (D : List DN) (id : Int) : (dropD D id).1.length = D.length := by
 unfold dropD
 split <;> simp
theorem dropD_small {D : List DN} (h : Small36 D) (id : Int) : Small36 (dropD D id).1 := by
 refine ⟨by rw [dropD_len]; exact h.n, fun x hx => ?_⟩
 unfold dropD at hx
 split at hx
 ·exact h.p x hx
 ·rename_i y hl
  obtain ⟨k, _, hy, _⟩ := liveAt_some hl
  obtain ⟨z, hz, rfl⟩ := List.mem_map.1 hx
  have hz' : z.P.length <= 5000 /\ z.R.length <= 5000 := by
   rcases List.mem_or_eq_of_mem_set hz with h1 | h1
   ·exact h.p z h1
   ·subst h1; exact h.p y (List.mem_of_getElem? hy)
  simpa [zeroD] using hz'
theorem dropsD_len (l : List Int) : ∀ D : List DN, (dropsD D l).length = D.length := by
 induction l with
 | nil => intro D; rfl
 | cons x l ih => intro D; exact (ih _).trans (dropD_len D x)
theorem dropsD_small (l : List Int) : ∀ {D : List DN}, Small36 D -> Small36 (dropsD D l) := by
 induction l with
 | nil => intro D h; exact h
 | cons x l ih => intro D h; exact ih (dropD_small h x)
theorem dropsD_snoc {D : List DN} {l : List Int} {k : Nat} {id : Int} (h : l[k]? = some id) : dropsD D (l.take (k + 1)) = (dropD (dropsD D (l.take k)) id).1 := by
 unfold dropsD
 rw [take_snoc h, List.foldl_append]; rfl
theorem Gfr.of_len {gb mb : Nat} {D D' : List DN} {N : Nat -> Nat} {J J' : AH O} (h : Gfr gb mb D' N J J') (e : D'.length = D.length) : Gfr gb mb D N J J' := ⟨h.next, fun b hb f => h.blk b hb ⟨f.1, f.2.1, fun i hi => f.2.2 i (by omega)⟩⟩
theorem Gfr.trans' {gb mb : Nat} {D : List DN} {N : Nat -> Nat} {J J' J'' : AH O} (h : Gfr gb mb D N J J') (k : Gfr gb mb D N J' J'') : Gfr gb mb D N J J'' := ⟨Nat.le_trans h.next k.next, fun b hb f => (k.blk b (Nat.lt_of_lt_of_le hb h.next) f).trans (h.blk b hb f)⟩
theorem keep_ok {J : AH O} {gb mb : Nat} {D : List DN} {N : Nat -> Nat} (G : GAt J gb mb D N) (hs : Small36 D) {a : SA} {roots : List Int} (rl : Rd J 1 a roots.length (roots.map (.i .i64))) (rb : ∀ b ∈ SA.bk a, b < J.next) (hl : roots.length <= 1000) :
  Ok (reach_Keep [.p (some (.n gb, 0)), .sl a roots.length] J) fun r => ∃ a', r.1 = .sl a' (lostD D roots).length /\ OwnS r.2 3 1 a' (lostD D roots).length ((lostD D roots).map (AV.i .i64)) /\ (∀ b ∈ SA.bk a', J.next <= b) /\ GAt r.2 gb mb (dropsD D (lostD D roots)) N /\ Gfr gb mb D N J r.2 := by
 have hn := hs.n
 have il := ids_le (D := D)
 have hgl := G.gl
 simp (maxSteps := 2000000) -implicitDefEqProofs (disch := (first | omega | rfl | assumption | (simp only [rsD]; first | omega | assumption))) only [reach_Keep, reach_Keep_c, Nat.reduceAdd, Nat.reduceMul, Nat.reduceLT, Int.reduceToNat, Int.reduceAdd, Int.reduceSub, Int.reduceMul, rsU, rsC]
 refine Ok.step (marked_ok G hs rl rb hl) fun q ⟨q1, q2, q3, q4⟩ => ?_
 obtain ⟨q, J1⟩ := q
 simp only at q1 q2 q3
 have mn : J.next < J1.next := q4
 subst q1
 simp (maxSteps := 2000000) -implicitDefEqProofs (disch := (first | omega | rfl | assumption | (simp only [rsD]; first | omega | assumption))) only [s_mp, Nat.reduceAdd, Nat.reduceMul, Nat.reduceLT, Int.reduceToNat, Int.reduceAdd, Int.reduceSub, Int.reduceMul, rsU, rsC]
 have x1 := q3.next
 refine Ok.step (gids_ok (G.ext q3) hs) fun q ⟨a3, k1, k2⟩ => ?_
 obtain ⟨q, J2⟩ := q
 simp only at k1 k2
 subst k1
 simp (maxSteps := 2000000) -implicitDefEqProofs (disch := (first | omega | rfl | assumption | (simp only [rsD]; first | omega | assumption))) only [Nat.reduceAdd, Nat.reduceMul, Nat.reduceLT, Int.reduceToNat, Int.reduceAdd, Int.reduceSub, Int.reduceMul, rsU, rsC]
 have M2 := q2.ext mn k2.e
 have G2 := (G.ext q3).ext k2.e
 unfold lostD
 generalize idsD D = ids at *
 refine Ok.step (Ok.count ids.length (fun k s => ∃ a' J', s = ([.sl a' ((ids.take k).filter (goneB D roots)).length, .i .i64 (k : Int)], J') /\ NI J2 J' a' ((ids.take k).filter (goneB D roots))) (Q := fun r => ∃ a' J', r = ([.sl a' (ids.filter (goneB D roots)).length], J') /\ NI J2 J' a' (ids.filter (goneB D roots))) ?_ ?_ ?_) ?_
 ·rintro k s hk ⟨a', J', rfl, M⟩
  obtain ⟨id, hid⟩ : ∃ id, ids[k]? = some id := ⟨_, List.getElem?_eq_getElem hk⟩
  have rk : Rd J' 1 a3 ids.length (ids.map (.i .i64)) := k2.rd.of fun b hb => M.e.blk b (k2.o.lt b hb)
  obtain ⟨b, o, rfl, ld⟩ := rk.at1 (i := k) (v := .i .i64 id) (by rw [List.getElem?_map, hid]; rfl)
  rw [Nat.mul_one] at ld
  have dk := decide_eq_true (show (k : Int) < (ids.length : Int) by omega)
  have lf : ((ids.take k).filter (goneB D roots)).length <= 5000 := by have := List.length_filter_le (goneB D roots) (ids.take k); simp at this; omega
  have me := (M2.ext (by have := k2.e.next; omega) M.e).ents
  obtain ⟨f, f1, f2⟩ := (M2.ext (by have := k2.e.next; omega) M.e).look id
  by_cases c : id ∈ (levelsD D roots).flatten
  ·rw [if_pos c] at f2
   have wp := wayV_pos (levelsD D roots) id
   have q0 : (wayV (levelsD D roots) id == 0) = false := s_eqF (by omega)
   have hb : goneB D roots id = false := by simp [goneB, heldB, c]
   simp (maxSteps := 2000000) -implicitDefEqProofs (disch := (first | omega | rfl | assumption | (simp only [rsD]; first | omega | assumption))) only [reach_Keep_L1, dk, ld, me, f1, f2, q0, Nat.reduceAdd, Nat.reduceMul, Nat.reduceLT, Int.reduceToNat, Int.reduceAdd, Int.reduceSub, Int.reduceMul, rsU, rsC]
   have ef : (ids.take (k + 1)).filter (goneB D roots) = (ids.take k).filter (goneB D roots) := by rw [take_snoc hid, List.filter_append]; simp [hb]
   exact Ok_some.2 ⟨a', J', by rw [ef]; rfl, by rw [ef]; exact M⟩
  ·rw [if_neg c] at f2
   have q0 : ((0 : Int) == 0) = true := rfl
   have hb : goneB D roots id = true := by simp [goneB, heldB, c]
   simp (maxSteps := 2000000) -implicitDefEqProofs (disch := (first | omega | rfl | assumption | (simp only [rsD]; first | omega | assumption))) only [reach_Keep_L1, dk, ld, me, f1, f2, q0, Nat.reduceAdd, Nat.reduceMul, Nat.reduceLT, Int.reduceToNat, Int.reduceAdd, Int.reduceSub, Int.reduceMul, rsU, rsC]
   have E : Ext J' ((J'.bump 2).put J'.next (.cells true 3 [.i .i64 id])) := (ext_of (by simp only [put_next, bump_next, kill_next]; omega) (fun b hb => by simp -implicitDefEqProofs (disch := (first | omega | rfl | assumption | (simp only [rsD]; first | omega | assumption))) only [s_bn, s_kn, bump_blk, s_ext]))
   refine Ok.step (M.push (nid := J'.next + 1) (v := id) E (by omega) (by show _ < J'.next + 2; omega)) fun q ⟨a2, q1, q2, q3⟩ => ?_
   obtain ⟨q, J3⟩ := q
   simp only at q1 q2
   subst q1
   simp (maxSteps := 2000000) -implicitDefEqProofs (disch := (first | omega | rfl | assumption | (simp only [rsD]; first | omega | assumption))) only [Nat.reduceAdd, Nat.reduceMul, Nat.reduceLT, Int.reduceToNat, Int.reduceAdd, Int.reduceSub, Int.reduceMul, rsU, rsC]
   have ef : (ids.take (k + 1)).filter (goneB D roots) = (ids.take k).filter (goneB D roots) ++ [id] := by rw [take_snoc hid, List.filter_append]; simp [hb]
   refine Ok_some.2 ⟨a2, J3, ?_, ?_⟩
   ·rw [ef]; rfl
   ·rw [ef]; exact q2
 ·rintro s ⟨a', J', rfl, M⟩
  simp (maxSteps := 2000000) -implicitDefEqProofs (disch := (first | omega | rfl | assumption | (simp only [rsD]; first | omega | assumption))) only [reach_Keep_L1, Nat.reduceAdd, Nat.reduceMul, Nat.reduceLT, Int.reduceToNat, Int.reduceAdd, Int.reduceSub, Int.reduceMul, rsU, rsC]
  rw [List.take_length] at M
  exact Ok_some.2 ⟨a', J', rfl, M⟩
 ·exact ⟨.nil, J2, rfl, NI.nil J2⟩
 ·rintro _ ⟨a', J', rfl, M⟩
  simp (maxSteps := 2000000) -implicitDefEqProofs (disch := (first | omega | rfl | assumption | (simp only [rsD]; first | omega | assumption))) only [Nat.reduceAdd, Nat.reduceMul, Nat.reduceLT, Int.reduceToNat, Int.reduceAdd, Int.reduceSub, Int.reduceMul, rsU, rsC]
  have E := q3.trans k2.e
  have M' := M.low E
  have x2 := k2.e.next
  have x3 := M.e.next
  have lf : (ids.filter (goneB D roots)).length <= 5000 := by have := List.length_filter_le (goneB D roots) ids; omega
  have G3 := G2.ext M.e
  generalize ids.filter (goneB D roots) = lost at *
  have fr : ∀ b ∈ SA.bk a', Free gb mb D N b := fun b hb => by
   have := M'.lo b hb
   have ho := G.o
   exact ⟨by omega, by omega, fun i hi => by have := G.lo i hi; omega⟩
  refine Ok.step (Ok.count lost.length (fun k s => ∃ J2, s = ([.i .i64 (k : Int)], J2) /\ GAt J2 gb mb (dropsD D (lost.take k)) N /\ Gfr gb mb D N J' J2) (Q := fun r => ∃ J2, r = ([], J2) /\ GAt J2 gb mb (dropsD D lost) N /\ Gfr gb mb D N J' J2) ?_ ?_ ⟨J', rfl, G3, Gfr.refl _ _ _ _ _⟩) ?_
  ·rintro k s hk ⟨J4, rfl, G4, F4⟩
   obtain ⟨id, hid⟩ : ∃ id, lost[k]? = some id := ⟨_, List.getElem?_eq_getElem hk⟩
   have rk : Rd J4 1 a' lost.length (lost.map (.i .i64)) := M.rd.of fun b hb => F4.blk b (M.o.lt b hb) (fr b hb)
   obtain ⟨b, o, rfl, ld⟩ := rk.at1 (i := k) (v := .i .i64 id) (by rw [List.getElem?_map, hid]; rfl)
   rw [Nat.mul_one] at ld
   have dk := decide_eq_true (show (k : Int) < (lost.length : Int) by omega)
   simp (maxSteps := 2000000) -implicitDefEqProofs (disch := (first | omega | rfl | assumption | (simp only [rsD]; first | omega | assumption))) only [reach_Keep_L2, dk, ld, Nat.reduceAdd, Nat.reduceMul, Nat.reduceLT, Int.reduceToNat, Int.reduceAdd, Int.reduceSub, Int.reduceMul, rsU, rsC]
   refine Ok.step (gdropN_ok G4 (dropsD_small _ hs) (id := id)) fun q ⟨g1, g2, g3⟩ => ?_
   obtain ⟨q, J5⟩ := q
   simp only at g1 g2 g3
   subst g1
   simp (maxSteps := 2000000) -implicitDefEqProofs (disch := (first | omega | rfl | assumption | (simp only [rsD]; first | omega | assumption))) only [Nat.reduceAdd, Nat.reduceMul, Nat.reduceLT, Int.reduceToNat, Int.reduceAdd, Int.reduceSub, Int.reduceMul, rsU, rsC]
   exact Ok_some.2 ⟨J5, rfl, by rw [dropsD_snoc hid]; exact g2, F4.trans' (g3.of_len (dropsD_len _ _))⟩
  ·rintro s ⟨J4, rfl, G4, F4⟩
   simp (maxSteps := 2000000) -implicitDefEqProofs (disch := (first | omega | rfl | assumption | (simp only [rsD]; first | omega | assumption))) only [reach_Keep_L2, Nat.reduceAdd, Nat.reduceMul, Nat.reduceLT, Int.reduceToNat, Int.reduceAdd, Int.reduceSub, Int.reduceMul, rsU, rsC]
   rw [List.take_length] at G4
   exact Ok_some.2 ⟨J4, rfl, G4, F4⟩
  ·rintro _ ⟨J4, rfl, G4, F4⟩
   simp (maxSteps := 2000000) -implicitDefEqProofs (disch := (first | omega | rfl | assumption | (simp only [rsD]; first | omega | assumption))) only [Nat.reduceAdd, Nat.reduceMul, Nat.reduceLT, Int.reduceToNat, Int.reduceAdd, Int.reduceSub, Int.reduceMul, rsU, rsC]
   refine Ok_some.2 ⟨a', rfl, M.o.of F4.next fun b hb => F4.blk b (M.o.lt b hb) (fr b hb), fun b hb => M'.lo b hb, G4, ⟨by have := F4.next; show J.next <= J4.next; omega, fun b hb f => ?_⟩⟩
   rw [F4.blk b (by omega) f]
   exact M'.e.blk b hb
end Go.Abs.Try
namespace Go.Abs.Try
open Go Go.Abs
theorem dropD_none {D : List DN} {id w : Int} (h : liveAt D w = none) : liveAt (dropD D id).1 w = none := by
 unfold dropD
 cases hl : liveAt D id with
 | none => exact h
 | some x =>
  obtain ⟨k, rfl, hx, hg, hk⟩ := liveAt_some hl
  show liveAt ((D.set ((k : Int) + 1 - 1).toNat { x with gone := true }).map (zeroD ((k : Int) + 1))) w = none
  rw [show ((k : Int) + 1 - 1).toNat = k by omega, liveAt_drop hx, h]
  split <;> rfl
theorem dropD_self (D : List DN) (id : Int) : liveAt (dropD D id).1 id = none := by
 unfold dropD
 cases hl : liveAt D id with
 | none => exact hl
 | some x =>
  obtain ⟨k, rfl, hx, hg, hk⟩ := liveAt_some hl
  show liveAt ((D.set ((k : Int) + 1 - 1).toNat { x with gone := true }).map (zeroD ((k : Int) + 1))) ((k : Int) + 1) = none
  rw [show ((k : Int) + 1 - 1).toNat = k by omega, liveAt_drop hx, if_pos rfl]
theorem dropD_other {D : List DN} {id w : Int} (hw : w ≠ id) (h : ∀ x, liveAt D w = some x -> id ∉ x.P) : liveAt (dropD D id).1 w = liveAt D w := by
 unfold dropD
 cases hl : liveAt D id with
 | none => rfl
 | some x =>
  obtain ⟨k, rfl, hx, hg, hk⟩ := liveAt_some hl
  show liveAt ((D.set ((k : Int) + 1 - 1).toNat { x with gone := true }).map (zeroD ((k : Int) + 1))) w = _
  rw [show ((k : Int) + 1 - 1).toNat = k by omega, liveAt_drop hx, if_neg hw]
  cases hy : liveAt D w with
  | none => rfl
  | some y =>
   have hn := h y hy
   rw [Option.map_some]
   congr 1
   obtain ⟨hh, P, R, g⟩ := y
   simp only [zeroD]
   congr 1
   refine (List.map_congr_left fun t ht => ?_).trans (List.map_id P)
   rw [if_neg fun e : t = (k : Int) + 1 => hn (e ▸ ht)]; rfl
theorem dropsD_none {w : Int} : ∀ (l : List Int) {D : List DN}, liveAt D w = none -> liveAt (dropsD D l) w = none
 | [], _, h => h
 | _ :: l, _, h => dropsD_none l (dropD_none h)
theorem dropsD_gone {w : Int} : ∀ (l : List Int) {D : List DN}, w ∈ l -> liveAt (dropsD D l) w = none
 | id :: l, D, h => by
  rcases List.mem_cons.1 h with e | h
  ·subst e; exact dropsD_none l (dropD_self D w)
  ·exact dropsD_gone l (D := (dropD D id).1) h
theorem dropsD_live {w : Int} : ∀ (l : List Int) {D : List DN}, w ∉ l -> (∀ x, liveAt D w = some x -> ∀ t ∈ l, t ∉ x.P) -> liveAt (dropsD D l) w = liveAt D w
 | [], _, _, _ => rfl
 | id :: l, D, hw, h => by
  simp only [List.mem_cons, not_or] at hw
  have e : liveAt (dropD D id).1 w = liveAt D w := dropD_other hw.1 fun x hx => h x hx id (by simp)
  have := dropsD_live l (D := (dropD D id).1) hw.2 fun x hx t ht => h x (by rw [<- e]; exact hx) t (by simp [ht])
  exact this.trans e
theorem mem_ids {D : List DN} {id : Int} : id ∈ idsD D ↔ (liveAt D id).isSome = true := by
 unfold idsD
 rw [List.mem_map]
 constructor
 ·rintro ⟨i, hi, rfl⟩
  obtain ⟨x, hx, hg⟩ := mem_liveL.1 hi
  rw [liveAt_of hx hg]; rfl
 ·intro h
  obtain ⟨x, hx⟩ := Option.isSome_iff_exists.1 h
  obtain ⟨i, rfl, hi, hg, _⟩ := liveAt_some hx
  exact ⟨i, mem_liveL.2 ⟨x, hi, hg⟩, rfl⟩
theorem mem_lost {D : List DN} {roots : List Int} {id : Int} : id ∈ lostD D roots ↔ (liveAt D id).isSome = true /\ id ∉ (levelsD D roots).flatten := by
 unfold lostD
 rw [List.mem_filter, mem_ids]
 simp [goneB, heldB]
theorem mem_from {D : List DN} {roots : List Int} {id : Int} : id ∈ fromD D roots ↔ id ∈ (levelsD D roots).flatten := by
 unfold fromD
 rw [List.mem_filter, mem_ids]
 simp only [heldB, decide_eq_true_eq]
 exact ⟨fun h => h.2, fun h => ⟨levels_live h, h⟩⟩
def keptD (D : List DN) (roots : List Int) : List DN := dropsD D (lostD D roots)
section kept
variable {D : List DN} {roots : List Int}
theorem kept_len : (keptD D roots).length = D.length := dropsD_len _ _
theorem kept_in (hv : Val D) {w : Int} (h : w ∈ (levelsD D roots).flatten) : liveAt (keptD D roots) w = liveAt D w := by
 refine dropsD_live _ (fun hl => (mem_lost.1 hl).2 h) fun x hx t ht hm => ?_
 obtain ⟨t1, t2⟩ := mem_lost.1 ht
 have t0 : t ≠ 0 := fun e => by
  subst e
  obtain ⟨y, hy⟩ := Option.isSome_iff_exists.1 t1
  obtain ⟨i, hi, _⟩ := liveAt_some hy
  omega
 refine t2 (levels_closed h ?_ t1)
 unfold edgesD
 rw [hx]
 exact List.mem_filter.2 ⟨hm, by simp [nz, t0]⟩
theorem kept_out {w : Int} (h : w ∉ (levelsD D roots).flatten) : liveAt (keptD D roots) w = none := by
 cases q : liveAt D w with
 | none => exact dropsD_none _ q
 | some x => exact dropsD_gone _ (mem_lost.2 ⟨by rw [q]; rfl, h⟩)
theorem kept_edges (hv : Val D) {w : Int} (h : w ∈ (levelsD D roots).flatten) : edgesD (keptD D roots) w = edgesD D w := by
 unfold edgesD
 rw [kept_in hv h]
theorem kept_levels (hv : Val D) : levelsD (keptD D roots) roots = levelsD D roots :=
 levels_congr kept_len (fun w hw => by rw [kept_in hv hw]; exact levels_live hw) (fun w hw => by
  by_cases c : w ∈ (levelsD D roots).flatten
  ·rwa [kept_in hv c] at hw
  ·rw [kept_out c] at hw; cases hw) fun v h => kept_edges hv h
theorem ids_filter (D : List DN) : idsD D = ((List.range D.length).map fun i : Nat => (i : Int) + 1).filter fun id => (liveAt D id).isSome := by
 unfold idsD liveL
 rw [List.filter_map]
 congr 1
 refine List.filter_congr fun i hi => ?_
 have hi := List.mem_range.1 hi
 show _ = (liveAt D ((i : Int) + 1)).isSome
 unfold liveAt
 rw [if_pos (by omega), show ((i : Int) + 1 - 1).toNat = i by omega, List.getElem?_eq_getElem hi]
 simp only
 cases D[i].gone <;> rfl
theorem kept_ids (hv : Val D) : idsD (keptD D roots) = fromD D roots := by
 unfold fromD
 rw [ids_filter, ids_filter, kept_len, List.filter_filter]
 refine List.filter_congr fun id _ => ?_
 by_cases c : id ∈ (levelsD D roots).flatten
 ·rw [kept_in hv c, show heldB D roots id = true from decide_eq_true c, levels_live c]; rfl
 ·rw [kept_out c, show heldB D roots id = false from decide_eq_false c]; rfl
theorem kept_from (hv : Val D) : fromD (keptD D roots) roots = fromD D roots := by
 have e : heldB (keptD D roots) roots = heldB D roots := by funext id; unfold heldB; rw [kept_levels hv]
 show (idsD (keptD D roots)).filter _ = _
 rw [kept_ids hv, e]
 unfold fromD
 rw [List.filter_filter]; simp
theorem kept_lost (hv : Val D) : lostD (keptD D roots) roots = [] := by
 have e : goneB (keptD D roots) roots = goneB D roots := by funext id; unfold goneB heldB; rw [kept_levels hv]
 show (idsD (keptD D roots)).filter _ = _
 rw [kept_ids hv, e]
 unfold fromD
 rw [List.filter_filter, List.filter_eq_nil_iff]
 intro id _ h
 simp [goneB] at h
theorem kept_count (D : List DN) (roots : List Int) : (fromD D roots).length + (lostD D roots).length = (idsD D).length := by
 unfold fromD lostD
 generalize idsD D = l
 induction l with
 | nil => rfl
 | cons x l ih =>
  rw [List.filter_cons, List.filter_cons]
  cases c : heldB D roots x with
  | true => rw [if_pos rfl, if_neg (by simp [goneB, c])]; simp; omega
  | false => rw [if_neg (by simp), if_pos (by simp [goneB, c])]; simp; omega
theorem kept_small (hs : Small36 D) : Small36 (keptD D roots) := dropsD_small _ hs
end kept
end Go.Abs.Try
