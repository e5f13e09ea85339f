/-
  Where objects are now: their headers and words, found and moved. No conditions.
-/
import Derived.Test.YtncohicmiihjiaaGreatL20
set_option linter.unusedVariables false
set_option linter.unusedSimpArgs false
set_option linter.constructorNameAsVariable false
set_option linter.unusedSimpArgs false
set_option linter.unusedVariables false
set_option linter.unusedSectionVars false
set_option maxHeartbeats 2000000
namespace Go.Abs.Tryz
open Go Go.Abs
variable {O : Type}
def DO.nowOb (d : DO) (t : Nat) : Ob := ⟨d.h.l, t, d.n⟩
theorem DO.nowref (d : DO) (t : Nat) : (d.nowOb t).ref = d.to t := rfl
theorem EV.has {Ds : List DO} {now : Nat -> Option Nat} {L : LarS} {T : StoS} {v : List Int} {ot : Nat} (e : EV Ds now L T v ot) {i : Nat} {d : DO} (hd : Ds[i]? = some d) {t : Nat} (hn : now i = some t) : (d.nowOb t).has T L d.h.older /\ ∀ k, k < d.n -> obW T L (d.nowOb t) k = d.older.ws.getD k 0 := by
 have hm := List.mem_of_getElem? hd
 have ok := e.ok d hm
 have n1 : 1 <= d.n := by unfold DO.n; omega
 have wd : ∀ k, k < d.n -> obW T L (d.nowOb t) k = d.older.ws.getD k 0 := fun k hk => by
  unfold obW
  show (if d.h.l then ((L.ob t).getD []).getD k 0 else T.ws.getD (t + k) 0) = _
  cases hl : d.h.l with
  | true =>
   obtain ⟨q1, q2, q3⟩ := e.l1 i d t hd hl hn
   rw [if_pos rfl, q1, q3]; rfl
  | false =>
   obtain ⟨q1, q2, q3⟩ := e.s1 i d t hd hl hn
   simp only [Bool.false_eq_true, if_false]
   exact q3 k hk
 refine ⟨⟨?_, ?_, wd 0 (by omega), ok.h.older⟩, wd⟩
 ·unfold Ob.is
  show if d.h.l then (∃ ws, L.ob t = some ws /\ ws.length = d.n) else t + d.n <= T.top
  cases hl : d.h.l with
  | true =>
   obtain ⟨q1, q2, q3⟩ := e.l1 i d t hd hl hn
   rw [if_pos rfl, q1]
   exact ⟨_, q3, d.older.wsn⟩
  | false =>
   obtain ⟨q1, q2, q3⟩ := e.s1 i d t hd hl hn
   simp only [Bool.false_eq_true, if_false]
   exact q2
 ·show d.n = 1 + d.h.p + d.h.r
  rw [ok.p, ok.r]; rfl
theorem EV.two {Ds : List DO} {now : Nat -> Option Nat} {L : LarS} {T : StoS} {v : List Int} {ot : Nat} (e : EV Ds now L T v ot) {i j : Nat} {a b : DO} (ha : Ds[i]? = some a) (hb : Ds[j]? = some b) {t u : Nat} (hi : now i = some t) (hj : now j = some u) : (a.to t == b.to u) = (((i : Nat) : Int) == ((j : Nat) : Int)) := by
 by_cases c : i = j
 ·subst c
  rw [ha] at hb; cases hb
  rw [hi] at hj; cases hj
  simp
 ·have e2 : (((i : Nat) : Int) == ((j : Nat) : Int)) = false := by simp; omega
  rw [e2]
  have : a.to t ≠ b.to u := by
   unfold DO.to
   cases hal : a.h.l with
   | true =>
    cases hbl : b.h.l with
    | true =>
     obtain ⟨q1, _⟩ := e.l1 i a t ha hal hi
     obtain ⟨q2, _⟩ := e.l1 j b u hb hbl hj
     have := e.apart c ha hb (by rw [hal, hbl])
     rw [hal, if_pos rfl, <- q1, <- q2] at this
     simp only [if_true]
     unfold rlg; omega
    | false =>
     simp only [if_true, Bool.false_eq_true, if_false]
     unfold rlg rsm; omega
   | false =>
    cases hbl : b.h.l with
    | true =>
     simp only [if_true, Bool.false_eq_true, if_false]
     unfold rlg rsm; omega
    | false =>
     have : t ≠ u := fun q => c (e.inj i j a b t ha hb hal hbl hi (by rw [q]; exact hj))
     simp only [Bool.false_eq_true, if_false]
     unfold rsm; omega
  simpa using this
section
variable {f : Fn × List AV × List AV} {Tw : List Hd -> AH O -> List Nat -> Prop} (tl : Teller f Tw) {J : AH O} {eb sb nb lb pb mb : Nat} {M : MemS} {S : PoolS} {w : List Int} {L : LarS} {T : StoS} {X Z : List Nat} {oid : Int} {v : List Int} {ot : Nat} {hs : List Hd} (h : MovAt f Tw J eb sb nb lb pb mb M S w L T X [] oid v ot hs Z)
include tl h
theorem MovAt.asked {J' : AH O} {M' : MemS} {k a c : Int} (s : StoAt J' sb nb lb pb mb M' S w L T (eb :: (Z ++ X)) [oid]) (b : Beh [oid] M M' k a c) (kp : Keep (eb :: (Z ++ X)) J J') : MovAt f Tw J' eb sb nb lb pb mb M' S w L T X [] oid v ot hs Z :=
 h.as tl ⟨s, h.t.old, (b.keep oid (by simp)).trans h.t.w, h.t.top⟩ kp
theorem mov_word (hf : M.far 1000) {o : Ob} (ho : o.is T L) {k : Nat} (hk : k < o.n) : Ok (qly [.p (some (.n sb, 0)), .i .u64 o.ref, .i .i64 (k : Int)] J) fun r => r.1 = .tup [.i .u64 (obW T L o k), .i .i64 0] /\ ∃ M', MovAt f Tw r.2 eb sb nb lb pb mb M' S w L T X [] oid v ot hs Z /\ Beh [] M M' 3 0 0 /\ Keep X J r.2 :=
 (word_is h.t.s hf ho hk).mono fun r ⟨g1, M', g2, g3, g4, g5⟩ => ⟨g1, M', h.asked tl g2 g3 g5, g3.mono fun y hy => (nomatch hy), g5.mono fun b hb => by simp [hb]⟩
variable (hf : M.far 100000) {Ds : List DO} {now : Nat -> Option Nat} (e : EV Ds now L T v ot)
include hf e
end
theorem rolderH_ok (J : AH O) {h : Hd} (k : h.ok) : Ok (qrg [.agg [.i .i64 (h.p : Int), .i .i64 (h.r : Int), .i .i64 (h.s : Int), .i .i64 (h.g : Int), .b h.l]] J) fun q => q.1 = .agg h.older.av /\ Ext J q.2 := by
 have h4 := k.g
 by_cases c : (h.g : Int) < 7
 ·have d := decide_eq_true c
  simp (maxSteps := 2000000) -implicitDefEqProofs (disch := (first | omega | rfl | assumption | (simp only [rsD]; first | omega | assumption))) only [qrg, qrf, d, Nat.reduceAdd, Nat.reduceMul, Nat.reduceLT, Int.reduceToNat, Int.reduceAdd, Int.reduceSub, Int.reduceMul, rsU, rsC]
  refine Ok_some.2 ⟨?_, (ext_of (by simp only [put_next, bump_next, kill_next]; omega) (fun b hb => by simp -implicitDefEqProofs (disch := (first | omega | rfl | assumption | (simp only [rsD]; first | omega | assumption))) only [s_bn, s_kn, bump_blk, s_ext]))⟩
  have : ((min (h.g + 1) 7 : Nat) : Int) = (h.g : Int) + 1 := by omega
  simp only [Hd.av, Hd.older, this]
 ·have d := decide_eq_false c
  simp (maxSteps := 2000000) -implicitDefEqProofs (disch := (first | omega | rfl | assumption | (simp only [rsD]; first | omega | assumption))) only [qrg, qrf, d, Nat.reduceAdd, Nat.reduceMul, Nat.reduceLT, Int.reduceToNat, Int.reduceAdd, Int.reduceSub, Int.reduceMul, rsU, rsC]
  refine Ok_some.2 ⟨?_, (ext_of (by simp only [put_next, bump_next, kill_next]; omega) (fun b hb => by simp -implicitDefEqProofs (disch := (first | omega | rfl | assumption | (simp only [rsD]; first | omega | assumption))) only [s_bn, s_kn, bump_blk, s_ext]))⟩
  have : ((min (h.g + 1) 7 : Nat) : Int) = (h.g : Int) := by omega
  simp only [Hd.av, Hd.older, this]
end Go.Abs.Tryz
set_option maxHeartbeats 4000000
namespace Go.Abs.Tryz
open Go Go.Abs
variable {O : Type}
theorem bindS_bind {A S R : Type} {x : Option A} {f : A -> Option (S ⊕ R)} {g : S -> Option R} : bindS (x.bind f) g = x.bind fun r => bindS (f r) g := by cases x <;> rfl
section
variable {f : Fn × List AV × List AV} {Tw : List Hd -> AH O -> List Nat -> Prop} (tl : Teller f Tw) {J : AH O} {eb sb nb lb pb mb : Nat} {M : MemS} {S : PoolS} {w : List Int} {L : LarS} {T : StoS} {X Z : List Nat} {oid : Int} {v : List Int} {ot : Nat} {hs : List Hd} (h : MovAt f Tw J eb sb nb lb pb mb M S w L T X [] oid v ot hs Z) (hf : M.far 1000)
include tl h hf
theorem find_nil : Ok (qq6 [.p (some (.n eb, 0)), .i .u64 0] J) fun r => r.1 = .i .u64 0 /\ r.2 = J := by
 have hb := h.b
 simp (maxSteps := 2000000) -implicitDefEqProofs (disch := (first | omega | rfl | assumption | (simp only [rsD]; first | omega | assumption))) only [qq6, qq5, qle, qld, hb, Nat.reduceAdd, Nat.reduceMul, Nat.reduceLT, Int.reduceToNat, Int.reduceAdd, Int.reduceSub, Int.reduceMul, rsU, rsC]
 exact Ok_some.2 ⟨rfl, rfl⟩
theorem find_ok {Ds : List DO} {now : Nat -> Option Nat} (e : EV Ds now L T v ot) {i : Nat} {d : DO} (hd : Ds[i]? = some d) : Ok (qq6 [.p (some (.n eb, 0)), .i .u64 d.ref] J) fun r => r.1 = .i .u64 (match now i with | none => 0 | some t => d.to t) /\ ∃ M', MovAt f Tw r.2 eb sb nb lb pb mb M' S w L T X [] oid v ot hs Z /\ Beh [] M M' 10 0 0 /\ Keep X J r.2 := by
 have hb := h.b
 obtain ⟨el, hsb⟩ := h.t.s.s
 have hm := List.mem_of_getElem? hd
 have ok := e.ok d hm
 have n1 : 1 <= d.n := by unfold DO.n; omega
 have hvl := h.t.vl
 have hev := e.vl
 have htp := h.t.s.top
 have htl := h.t.s.tl
 unfold DO.ref DO.to
 cases hl : d.h.l with
 | false =>
  have hsm := e.sm d hm hl
  have lt : d.at_ < 4194304 := by omega
  have a1 := kind_sm J lt
  have a2 := at_sm J lt
  have z1 : ((1 : Int) == 1) = true := rfl
  simp only [Bool.false_eq_true, if_false]
  simp (maxSteps := 2000000) -implicitDefEqProofs (disch := (first | omega | rfl | assumption | (simp only [rsD]; first | omega | assumption))) only [qq6, qq5, a1, a2, z1, hb, qcp, qco, hsb, Nat.reduceAdd, Nat.reduceMul, Nat.reduceLT, Int.reduceToNat, Int.reduceAdd, Int.reduceSub, Int.reduceMul, rsU, rsC]
  simp only [bindS_bind]
  refine Ok.step (treadold_ok h.t (hf.less (by decide)) (at_ := d.at_) (by omega)) fun r ⟨g1, M', g2, g3, g4, g5⟩ => ?_
  obtain ⟨q, J1⟩ := r
  simp only at g1 g2 g5
  subst g1
  have h1 := h.as tl g2 g5
  simp (maxSteps := 2000000) -implicitDefEqProofs (disch := (first | omega | rfl | assumption | (simp only [rsD]; first | omega | assumption))) only [Nat.reduceAdd, Nat.reduceMul, Nat.reduceLT, Int.reduceToNat, Int.reduceAdd, Int.reduceSub, Int.reduceMul, rsU, rsC]
  try simp only [bindS_bind]
  cases hn : now i with
  | some t =>
   obtain ⟨q1, q2, q3⟩ := e.s1 i d t hd hl hn
   rw [q1]
   refine Ok.step (forwarded_yes J1 (at_ := t) (by omega)) fun r ⟨k1, k2⟩ => ?_
   obtain ⟨q, J2⟩ := r
   simp only at k1 k2
   subst k1
   have ts := tosmall_ok J2 (at_ := t) (by omega)
   simp (maxSteps := 2000000) -implicitDefEqProofs (disch := (first | omega | rfl | assumption | (simp only [rsD]; first | omega | assumption))) only [ts, Nat.reduceAdd, Nat.reduceMul, Nat.reduceLT, Int.reduceToNat, Int.reduceAdd, Int.reduceSub, Int.reduceMul, rsU, rsC]
   exact Ok_some.2 ⟨rfl, M', h1.ext tl k2, (show Beh [] M M' 1 0 0 from g3.mono fun y hy => (nomatch hy)).as (by decide) rfl rfl, (g5.trans (keepOf k2 fun b hb => g2.s.lt b hb)).mono fun b hb => by simp [hb]⟩
  | none =>
   have q := e.s0 i d hd hl hn 0 (by omega)
   rw [Nat.add_zero] at q
   rw [q]
   refine Ok.step (forwarded_no J1 (w := d.h.word) (by have := ok.h.w; omega)) fun r ⟨k1, k2⟩ => ?_
   obtain ⟨q, J2⟩ := r
   simp only at k1 k2
   subst k1
   simp (maxSteps := 2000000) -implicitDefEqProofs (disch := (first | omega | rfl | assumption | (simp only [rsD]; first | omega | assumption))) only [Nat.reduceAdd, Nat.reduceMul, Nat.reduceLT, Int.reduceToNat, Int.reduceAdd, Int.reduceSub, Int.reduceMul, rsU, rsC]
   exact Ok_some.2 ⟨rfl, M', h1.ext tl k2, (show Beh [] M M' 1 0 0 from g3.mono fun y hy => (nomatch hy)).as (by decide) rfl rfl, (g5.trans (keepOf k2 fun b hb => g2.s.lt b hb)).mono fun b hb => by simp [hb]⟩
 | true =>
  have fin : ∀ (ws : List Int), L.ob d.at_ = some ws -> (match now i with | none => (0 : Int) | some t => if true = true then rlg t else rsm t) = (if d.at_ ∈ L.H then rlg d.at_ else 0) -> Ok (qq6 [.p (some (.n eb, 0)), .i .u64 (rlg d.at_)] J) fun r => r.1 = .i .u64 (match now i with | none => 0 | some t => if true = true then rlg t else rsm t) /\ ∃ M', MovAt f Tw r.2 eb sb nb lb pb mb M' S w L T X [] oid v ot hs Z /\ Beh [] M M' 10 0 0 /\ Keep X J r.2 := by
   intro ws ho hr
   rw [hr]
   have hol := h.t.s.oblt ho
   have a1 := kind_lg J hol
   have a2 := at_lg J hol
   have z1 : ((2 : Int) == 1) = false := rfl
   have z2 : ((2 : Int) == 2) = true := rfl
   simp (maxSteps := 2000000) -implicitDefEqProofs (disch := (first | omega | rfl | assumption | (simp only [rsD]; first | omega | assumption))) only [qq6, qq5, a1, a2, z1, z2, hb, qcu, qct, hsb, Nat.reduceAdd, Nat.reduceMul, Nat.reduceLT, Int.reduceToNat, Int.reduceAdd, Int.reduceSub, Int.reduceMul, rsU, rsC]
   simp only [bindS_bind]
   refine Ok.step (lmarked_ok h.t.s.l hf ho) fun r ⟨g1, M', g2, g3, g4⟩ => ?_
   obtain ⟨q, J1⟩ := r
   simp only at g1 g2 g4
   subst g1
   have b1 := h.t.s.l.beh2 hf g3 g2.p.mi.ok
   have t1 := h.t.larged g2 b1 g4.tail
   have h1 := h.as tl t1 (g4.mono fun b hb => by
    simp only [List.mem_cons] at hb ⊢
    rcases hb with hb | hb
    ·simp [hb]
    ·simp [hb])
   by_cases c : d.at_ ∈ L.H
   ·rw [if_pos c, decide_eq_true c]
    simp (maxSteps := 2000000) -implicitDefEqProofs (disch := (first | omega | rfl | assumption | (simp only [rsD]; first | omega | assumption))) only [Nat.reduceAdd, Nat.reduceMul, Nat.reduceLT, Int.reduceToNat, Int.reduceAdd, Int.reduceSub, Int.reduceMul, rsU, rsC]
    exact Ok_some.2 ⟨rfl, M', h1, (show Beh [] M M' 2 0 0 from b1.mono fun y hy => (nomatch hy)).as (by decide) rfl rfl, g4.mono fun b hb => by simp [hb]⟩
   ·rw [if_neg c, decide_eq_false c]
    simp (maxSteps := 2000000) -implicitDefEqProofs (disch := (first | omega | rfl | assumption | (simp only [rsD]; first | omega | assumption))) only [Nat.reduceAdd, Nat.reduceMul, Nat.reduceLT, Int.reduceToNat, Int.reduceAdd, Int.reduceSub, Int.reduceMul, rsU, rsC]
    exact Ok_some.2 ⟨rfl, M', h1, (show Beh [] M M' 2 0 0 from b1.mono fun y hy => (nomatch hy)).as (by decide) rfl rfl, g4.mono fun b hb => by simp [hb]⟩
  simp only [if_true]
  cases hn : now i with
  | some t =>
   obtain ⟨q1, q2, q3⟩ := e.l1 i d t hd hl hn
   have := fin _ q3 (by rw [hn, if_pos q2, q1]; rfl)
   rw [hn] at this
   exact this
  | none =>
   obtain ⟨q1, q2⟩ := e.l0 i d hd hl hn
   have := fin _ q2 (by rw [hn, if_neg q1])
   rw [hn] at this
   exact this
end
def Gath (bx : Nat) (hs : List Hd) (J : AH O) (Z : List Nat) : Prop := ∃ a, J.blk bx = some (.cells true 48 [.sl a hs.length]) /\ OwnS J T_api_Header 5 a hs.length (hs.flatMap Hd.av) /\ Z = bx :: SA.bk a /\ bx ∉ SA.bk a /\ bx < J.next
def gathF (bx : Nat) : Fn × List AV × List AV := (.func 15, [], [.p (some (.n bx, 0))])
theorem gathT (bx : Nat) : Teller (O := O) (gathF bx) (Gath bx) where
 call := by
  rintro hs J Z hd ⟨a, hb, ho, rfl, hn, hlt⟩ k hZ hc
  show Ok (qps [.agg hd.av, .p (some (.n bx, 0))] J) _
  have ne : bx ≠ J.next := by omega
  simp only [Hd.av]
  simp (maxSteps := 2000000) -implicitDefEqProofs (disch := (first | omega | rfl | assumption | (simp only [rsD]; first | omega | assumption))) only [qps, qpr, hb, Nat.reduceAdd, Nat.reduceMul, Nat.reduceLT, Int.reduceToNat, Int.reduceAdd, Int.reduceSub, Int.reduceMul, rsU, rsC]
  generalize hJ : AH.put _ (J.next + 1) _ = J1
  have n1 : J1.next = J.next + 3 := by rw [<- hJ]; simp only [rsD]
  have E1 : Ext J J1 := by
   refine ⟨by omega, fun b hb => ?_⟩
   rw [<- hJ]
   ((try simp only [rsD] at *); simp -implicitDefEqProofs (disch := (first | omega | rfl | assumption | (simp only [rsD]; first | omega | assumption))) only [s_bs, s_bn, s_kn, bump_blk])
  clear hJ
  have ho1 := ho.of E1.next fun b hb => E1.blk b (hZ b (by simp [hb]))
  refine Ok.step (app_ok (nid := J.next + 1 + 1) ho1 (fun hm => by have := hZ _ (List.mem_cons_of_mem _ hm); omega) (by omega) (m := 1) (new := [AV.i .i64 _, .i .i64 _, .i .i64 _, .i .i64 _, .b _]) rfl) fun q ⟨a', q1, q2, q3, q4, q5⟩ => ?_
  obtain ⟨q, J2⟩ := q
  simp only at q1 q2 q3 q4
  subst q1
  have hb2 := (q4 bx (by omega) hn).trans ((E1.blk bx hlt).trans hb)
  simp (maxSteps := 2000000) -implicitDefEqProofs (disch := (first | omega | rfl | assumption | (simp only [rsD]; first | omega | assumption))) only [hb2, Nat.reduceAdd, Nat.reduceMul, Nat.reduceLT, Int.reduceToNat, Int.reduceAdd, Int.reduceSub, Int.reduceMul, rsU, rsC]
  have na' : bx ∉ SA.bk a' := fun hm => by have := q5 bx hm; omega
  refine Ok_some.2 ⟨rfl, bx :: SA.bk a', ⟨a', by rw [List.length_append]; exact s_bs, ?_, rfl, na', by simp only [rsD]; omega⟩, ⟨by simp only [rsD]; omega, fun b hb hm => ?_⟩, fun b hb => ?_⟩
  ·rw [List.length_append, List.flatMap_append]
   have := q2.of (J' := J2.put bx (.cells true 48 [.sl a' (hs.length + 1)])) (by simp) fun b hb => s_bn fun e => na' (e ▸ hb)
   simpa [Hd.av] using this
  ·simp only [List.mem_cons, not_or] at hm
   show (J2.put bx _).blk b = _
   rw [s_bn hm.1, q4 b (by omega) hm.2, E1.blk b hb]
  ·rcases List.mem_cons.1 hb with rfl | hb
   ·exact .inl (by simp)
   ·have := q5 b hb
    exact .inr ⟨by omega, by simp only [rsD]; omega⟩
 keep := by
  rintro hs J J' Z ⟨a, hb, ho, rfl, hn, hlt⟩ k
  exact ⟨a, (k.blk bx (by simp)).trans hb, ho.of k.next fun b hb => k.blk b (by simp [hb]), rfl, hn, Nat.lt_of_lt_of_le hlt k.next⟩
end Go.Abs.Tryz
