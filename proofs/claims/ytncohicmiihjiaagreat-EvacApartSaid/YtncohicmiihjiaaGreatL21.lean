/-
  Where objects are now: their headers and words, found and moved. No conditions.
-/
import Derived.Test.YtncohicmiihjiaaGreatL20
set_option linter.unusedVariables false
set_option linter.unusedSimpArgs false
set_option linter.constructorNameAsVariable false
set_option linter.unusedSimpArgs false
set_option linter.unusedVariables false
set_option linter.unusedSectionVars false
set_option maxHeartbeats 2000000
namespace Go.Abs.Tryz
open Go Go.Abs
variable {O : Type}
def DO.nowOb (d : DO) (t : Nat) : Ob := ⟨d.h.l, t, d.n⟩
theorem EV.has {Ds : List DO} {now : Nat -> Option Nat} {L : LarS} {T : StoS} {v : List Int} {ot : Nat} (e : EV Ds now L T v ot) {i : Nat} {d : DO} (hd : Ds[i]? = some d) {t : Nat} (hn : now i = some t) : (d.nowOb t).has T L d.h.older /\ ∀ k, k < d.n -> obW T L (d.nowOb t) k = d.older.ws.getD k 0 := by
 have hm := List.mem_of_getElem? hd
 have ok := e.ok d hm
 have n1 : 1 <= d.n := by unfold DO.n; omega
 have wd : ∀ k, k < d.n -> obW T L (d.nowOb t) k = d.older.ws.getD k 0 := fun k hk => by
  unfold obW
  show (if d.h.l then ((L.ob t).getD []).getD k 0 else T.ws.getD (t + k) 0) = _
  cases hl : d.h.l with
  | true =>
   obtain ⟨q1, q2, q3⟩ := e.l1 i d t hd hl hn
   rw [if_pos rfl, q1, q3]; rfl
  | false =>
   obtain ⟨q1, q2, q3⟩ := e.s1 i d t hd hl hn
   simp only [Bool.false_eq_true, if_false]
   exact q3 k hk
 refine ⟨⟨?_, ?_, wd 0 (by omega), ok.h.older⟩, wd⟩
 ·unfold Ob.is
  show if d.h.l then (∃ ws, L.ob t = some ws /\ ws.length = d.n) else t + d.n <= T.top
  cases hl : d.h.l with
  | true =>
   obtain ⟨q1, q2, q3⟩ := e.l1 i d t hd hl hn
   rw [if_pos rfl, q1]
   exact ⟨_, q3, d.older.wsn⟩
  | false =>
   obtain ⟨q1, q2, q3⟩ := e.s1 i d t hd hl hn
   simp only [Bool.false_eq_true, if_false]
   exact q2
 ·show d.n = 1 + d.h.p + d.h.r
  rw [ok.p, ok.r]; rfl
theorem EV.two {Ds : List DO} {now : Nat -> Option Nat} {L : LarS} {T : StoS} {v : List Int} {ot : Nat} (e : EV Ds now L T v ot) {i j : Nat} {a b : DO} (ha : Ds[i]? = some a) (hb : Ds[j]? = some b) {t u : Nat} (hi : now i = some t) (hj : now j = some u) : (a.to t == b.to u) = (((i : Nat) : Int) == ((j : Nat) : Int)) := by
 by_cases c : i = j
 ·subst c
  rw [ha] at hb; cases hb
  rw [hi] at hj; cases hj
  simp
 ·have e2 : (((i : Nat) : Int) == ((j : Nat) : Int)) = false := by simp; omega
  rw [e2]
  have : a.to t ≠ b.to u := by
   unfold DO.to
   cases hal : a.h.l with
   | true =>
    cases hbl : b.h.l with
    | true =>
     obtain ⟨q1, _⟩ := e.l1 i a t ha hal hi
     obtain ⟨q2, _⟩ := e.l1 j b u hb hbl hj
     have := e.apart c ha hb (by rw [hal, hbl])
     rw [hal, if_pos rfl, <- q1, <- q2] at this
     simp only [if_true]
     unfold rlg; omega
    | false =>
     simp only [if_true, Bool.false_eq_true, if_false]
     unfold rlg rsm; omega
   | false =>
    cases hbl : b.h.l with
    | true =>
     simp only [if_true, Bool.false_eq_true, if_false]
     unfold rlg rsm; omega
    | false =>
     have : t ≠ u := fun q => c (e.inj i j a b t ha hb hal hbl hi (by rw [q]; exact hj))
     simp only [Bool.false_eq_true, if_false]
     unfold rsm; omega
  simpa using this
section
variable {f : Fn × List AV × List AV} {Tw : List Hd -> AH O -> List Nat -> Prop} (tl : Teller f Tw) {J : AH O} {eb sb nb lb pb mb : Nat} {M : MemS} {S : PoolS} {w : List Int} {L : LarS} {T : StoS} {X Z : List Nat} {oid : Int} {v : List Int} {ot : Nat} {hs : List Hd} (h : MovAt f Tw J eb sb nb lb pb mb M S w L T X [] oid v ot hs Z)
include tl h
theorem MovAt.asked {J' : AH O} {M' : MemS} {k a c : Int} (s : StoAt J' sb nb lb pb mb M' S w L T (eb :: (Z ++ X)) [oid]) (b : Beh [oid] M M' k a c) (kp : Keep (eb :: (Z ++ X)) J J') : MovAt f Tw J' eb sb nb lb pb mb M' S w L T X [] oid v ot hs Z :=
 h.as tl ⟨s, h.t.old, (b.keep oid (by simp)).trans h.t.w, h.t.top⟩ kp
theorem mov_header (hf : M.far 1000) {o : Ob} {hd : Hd} (ho : o.has T L hd) : Ok (store_Store__Header [.p (some (.n sb, 0)), .i .u64 o.ref] J) fun r => r.1 = .tup [.agg hd.av, .i .i64 0] /\ ∃ M', MovAt f Tw r.2 eb sb nb lb pb mb M' S w L T X [] oid v ot hs Z /\ Beh [] M M' 3 0 0 /\ Keep X J r.2 :=
 (sheader_ok h.t.s hf ho).mono fun r ⟨g1, M', g2, g3, g4, g5⟩ => ⟨g1, M', h.asked tl g2 g3 g5, g3.mono fun y hy => (nomatch hy), g5.mono fun b hb => by simp [hb]⟩
variable (hf : M.far 100000) {Ds : List DO} {now : Nat -> Option Nat} (e : EV Ds now L T v ot)
include hf e
theorem ev_go {i : Nat} {d : DO} (hd : Ds[i]? = some d) (hc : hs.length < 1000) : Ok (evac_Mover__Move [.p (some (.n eb, 0)), .i .u64 d.ref] J) fun r => ∃ t now', r.1 = .i .u64 (d.to t) /\ now' i = some t /\ (∀ j u, now j = some u -> now' j = some u) /\ ∃ M' S' w' L' T' v' hs' Z', MovAt f Tw r.2 eb sb nb lb pb mb M' S' w' L' T' X [] oid v' ot hs' Z' /\ EV Ds now' L' T' v' ot /\ Beh [] M M' (2 * d.n + 100) 0 0 /\ hs'.length <= hs.length + 1 /\ Keep X J r.2 := by
 cases hn : now i with
 | some t =>
  refine (ev_again tl h hf e hd hn).mono fun r ⟨g1, M', g2, g3, g4, g5⟩ => ⟨t, now, g1, hn, fun j u h => h, M', S, w, L, T, v, hs, Z, g2, e, ?_, by omega, g5⟩
  exact g3.as (by split <;> omega) rfl rfl
 | none =>
  refine (ev_move tl h hf e hd hn hc).mono fun r ⟨g1, M', S', w', L', T', v', Z', g2, g3, g4, g5, g6, g7⟩ => ⟨_, _, g1, by simp [upN], fun j u hj => ?_, M', S', w', L', T', v', _, Z', g2, g3, ?_, by simp, g7⟩
  ·have : j ≠ i := fun q => by subst q; rw [hn] at hj; cases hj
   simp [upN, this, hj]
  ·exact g5.as (by split <;> omega) rfl rfl
end
theorem rolderH_ok (J : AH O) {h : Hd} (k : h.ok) : Ok (haymowref12_Older [.agg [.i .i64 (h.p : Int), .i .i64 (h.r : Int), .i .i64 (h.s : Int), .i .i64 (h.g : Int), .b h.l]] J) fun q => q.1 = .agg h.older.av /\ Ext J q.2 := by
 have h4 := k.g
 by_cases c : (h.g : Int) < 7
 ·have d := decide_eq_true c
  simp (maxSteps := 2000000) -implicitDefEqProofs (disch := (first | omega | rfl | assumption | (simp only [rsD]; first | omega | assumption))) only [haymowref12_Older, haymowref12_Older_c, d, Nat.reduceAdd, Nat.reduceMul, Nat.reduceLT, Int.reduceToNat, Int.reduceAdd, Int.reduceSub, Int.reduceMul, rsU, rsC]
  refine Ok_some.2 ⟨?_, (ext_of (by simp only [put_next, bump_next, kill_next]; omega) (fun b hb => by simp -implicitDefEqProofs (disch := (first | omega | rfl | assumption | (simp only [rsD]; first | omega | assumption))) only [s_bn, s_kn, bump_blk, s_ext]))⟩
  have : ((min (h.g + 1) 7 : Nat) : Int) = (h.g : Int) + 1 := by omega
  simp only [Hd.av, Hd.older, this]
 ·have d := decide_eq_false c
  simp (maxSteps := 2000000) -implicitDefEqProofs (disch := (first | omega | rfl | assumption | (simp only [rsD]; first | omega | assumption))) only [haymowref12_Older, haymowref12_Older_c, d, Nat.reduceAdd, Nat.reduceMul, Nat.reduceLT, Int.reduceToNat, Int.reduceAdd, Int.reduceSub, Int.reduceMul, rsU, rsC]
  refine Ok_some.2 ⟨?_, (ext_of (by simp only [put_next, bump_next, kill_next]; omega) (fun b hb => by simp -implicitDefEqProofs (disch := (first | omega | rfl | assumption | (simp only [rsD]; first | omega | assumption))) only [s_bn, s_kn, bump_blk, s_ext]))⟩
  have : ((min (h.g + 1) 7 : Nat) : Int) = (h.g : Int) := by omega
  simp only [Hd.av, Hd.older, this]
end Go.Abs.Tryz
set_option maxHeartbeats 4000000
namespace Go.Abs.Tryz
open Go Go.Abs
variable {O : Type}
theorem mod_u8 {x : Int} (h : 0 <= x /\ x <= 255) {n : Nat} (hn : 0 < n) : IntKind.i64.wrap x = x /\ Int.tmod x (n : Int) = ((x.toNat % n : Nat) : Int) := by
 refine ⟨s_i64 (by omega), ?_⟩
 rw [Int.tmod_eq_emod_of_nonneg h.1, Int.natCast_emod, Int.toNat_of_nonneg h.1]
set_option maxRecDepth 100000 in
theorem evacApart_ok {sa : SA} {zs : List MZ} (hi : Imm 4 sa zs.length (zs.flatMap MZ.cs)) (ho : ∀ z ∈ zs, z.ok) {x y : Int} (hx : 0 <= x /\ x <= 255) (hy : 0 <= y /\ y <= 255) : Ok (law20_EvacApart (O := O) [.sl sa zs.length, .agg [.i .u8 x, .i .u8 y]] startH) fun r => r.1 = .b true := by
 obtain ⟨J1, ea, hb0, hn0⟩ := awake20 (O := O) 23 [.i .u8 x, .i .u8 y]
 have st : (startH : AH O).next = 0 := rfl
 have f0 : (false == false) = true := rfl
 have f1 : (true == false) = false := rfl
 have t1 : (true == true) = true := rfl
 have z0 : ((0 : Int) == 0) = true := rfl
 simp -implicitDefEqProofs only [law20_EvacApart, law20_EvacApart_c, st, ea, Bool.not_true, Nat.reduceAdd, Nat.reduceMul, Nat.reduceLT, Int.reduceToNat, Int.reduceAdd, Int.reduceSub, Int.reduceMul, rsU, s_ldI, s_ldU, s_ldS, s_ldP, s_gtI, s_gtU, s_gtS, s_bleD, Nat.reduceLeDiff, decide_true, decide_false]
 by_cases c1 : (zs.length : Int) < 1
 ·simp -implicitDefEqProofs only [decide_eq_true c1, f1, Nat.reduceAdd, Nat.reduceMul, Nat.reduceLT, Int.reduceToNat, Int.reduceAdd, Int.reduceSub, Int.reduceMul, rsU, s_ldI, s_ldU, s_ldS, s_ldP, s_gtI, s_gtU, s_gtS, s_bleD, Nat.reduceLeDiff, decide_true, decide_false]
  exact Ok_some.2 rfl
 by_cases c2 : (zs.length : Int) > 16
 ·simp -implicitDefEqProofs only [decide_eq_false c1, f0, decide_eq_true c2, Nat.reduceAdd, Nat.reduceMul, Nat.reduceLT, Int.reduceToNat, Int.reduceAdd, Int.reduceSub, Int.reduceMul, rsU, s_ldI, s_ldU, s_ldS, s_ldP, s_gtI, s_gtU, s_gtS, s_bleD, Nat.reduceLeDiff, decide_true, decide_false]
  exact Ok_some.2 rfl
 simp -implicitDefEqProofs only [decide_eq_false c1, f0, decide_eq_false c2, Nat.reduceAdd, Nat.reduceMul, Nat.reduceLT, Int.reduceToNat, Int.reduceAdd, Int.reduceSub, Int.reduceMul, rsU, s_ldI, s_ldU, s_ldS, s_ldP, s_gtI, s_gtU, s_gtS, s_bleD, Nat.reduceLeDiff, decide_true, decide_false]
 refine Ok.step (made_ok (X := [0]) (zs := zs) (by simpa using hn0) (askedImm hi) (by omega) ho) fun q ⟨sb, nb, lb, pb, mb, M, S, w1, L, T, Ds, a, g1, m, hl, ha, k1⟩ => ?_
 obtain ⟨q, J3⟩ := q
 simp only at g1 m k1
 subst g1
 have b3 := (k1.blk 0 (by simp)).trans hb0
 simp -implicitDefEqProofs only [Bool.not_true, Nat.reduceAdd, Nat.reduceMul, Nat.reduceLT, Int.reduceToNat, Int.reduceAdd, Int.reduceSub, Int.reduceMul, rsU, s_ldI, s_ldU, s_ldS, s_ldP, s_gtI, s_gtU, s_gtS, s_bleD, Nat.reduceLeDiff, decide_true, decide_false]
 refine Ok.step (enew_ok J3 sb) fun q ⟨e1, e2, e3, e4⟩ => ?_
 obtain ⟨q, J4⟩ := q
 simp only at e1 e2 e3 e4
 subst e1
 have l3 : (0 : Nat) < J3.next := m.a.lt 0 (by simp)
 have m4 : StoAt J4 sb nb lb pb mb M S w1 L T (J3.next :: ([] ++ [0])) [] := m.a.beside e4 (fun b hb => by
  simp at hb
  rcases hb with rfl | rfl
  ·exact .inr ⟨Nat.le_refl _, by omega⟩
  ·exact .inl (by simp))
 have fw : M.few 3000 100 := m.few.le (by omega) (by omega)
 simp -implicitDefEqProofs only [Nat.reduceAdd, Nat.reduceMul, Nat.reduceLT, Int.reduceToNat, Int.reduceAdd, Int.reduceSub, Int.reduceMul, rsU, s_ldI, s_ldU, s_ldS, s_ldP, s_gtI, s_gtU, s_gtS, s_bleD, Nat.reduceLeDiff, decide_true, decide_false]
 refine Ok.step (begin_ok noT m4 e2 ⟨by simp, by simp; omega⟩ (by simp) rfl (fw.far m4.l.p.mi.ok (by decide)) (by have := fw.2; omega) m.old (by rw [m.ep]; decide)) fun q ⟨p1, M5, S5, w5, h5, _, y5, k5⟩ => ?_
 obtain ⟨q, J5⟩ := q
 simp only at p1 h5 k5
 subst p1
 have ev := m.ev (ff M.sp)
 have fw5 : M5.few 3100 200 := (y5.few fw).le (by omega) (by omega)
 have b5 := (k5.blk 0 (by simp)).trans ((e4.blk 0 l3).trans b3)
 have hpos : 0 < Ds.length := by omega
 obtain ⟨mx1, mx2⟩ := mod_u8 hx hpos
 obtain ⟨my1, my2⟩ := mod_u8 hy hpos
 generalize hI : x.toNat % Ds.length = i at mx2
 generalize hK : y.toNat % Ds.length = k at my2
 have hi' : i < Ds.length := by rw [<- hI]; exact Nat.mod_lt _ hpos
 have hk' : k < Ds.length := by rw [<- hK]; exact Nat.mod_lt _ hpos
 obtain ⟨d, hd⟩ : ∃ d, Ds[i]? = some d := ⟨_, List.getElem?_eq_getElem hi'⟩
 obtain ⟨d', hd'⟩ : ∃ d, Ds[k]? = some d := ⟨_, List.getElem?_eq_getElem hk'⟩
 obtain ⟨okd, dP, dR⟩ := m.ok d (List.mem_of_getElem? hd)
 obtain ⟨okd', dP', dR'⟩ := m.ok d' (List.mem_of_getElem? hd')
 obtain ⟨bb, oo, _, _, rfl, _, _, ld⟩ := ha.obj (i := i) (x := d.ov) (by rw [List.getElem?_map, hd]; rfl)
 obtain ⟨bb', oo', _, _, e', _, _, ld'⟩ := ha.obj (i := k) (x := d'.ov) (by rw [List.getElem?_map, hd']; rfl)
 cases e'
 have ld := ld O
 have ld' := ld' O
 have l7 : ∀ J : AH O, J.ld bb (oo + i * 8 + 7) = some (.i .u64 d.ref) := fun J => (ld J).2.2.2.2.2.2.2
 have l7' : ∀ J : AH O, J.ld bb (oo + k * 8 + 7) = some (.i .u64 d'.ref) := fun J => (ld' J).2.2.2.2.2.2.2
 have nz : ((Ds.length : Int) == 0) = false := by rw [beq_eq_false_iff_ne]; omega
 have i0 : decide ((0 : Int) <= (i : Int)) = true := decide_eq_true (by omega)
 have i1 : decide ((i : Int) < (Ds.length : Int)) = true := decide_eq_true (by omega)
 have k0 : decide ((0 : Int) <= (k : Int)) = true := decide_eq_true (by omega)
 have kk : decide ((k : Int) < (Ds.length : Int)) = true := decide_eq_true (by omega)
 simp -implicitDefEqProofs only [bne, z0, Bool.not_true, b5, nz, mx1, mx2, my1, my2, i0, i1, k0, kk, Bool.and_true, Int.toNat_natCast, l7, l7', Nat.reduceAdd, Nat.reduceMul, Nat.reduceLT, Int.reduceToNat, Int.reduceAdd, Int.reduceSub, Int.reduceMul, rsU, s_ldI, s_ldU, s_ldS, s_ldP, s_gtI, s_gtU, s_gtS, s_bleD, Nat.reduceLeDiff, decide_true, decide_false]
 refine Ok.step (ev_go noT h5 (fw5.far h5.t.s.l.p.mi.ok (by decide)) ev hd (by decide)) fun q ⟨t, now1, v1, v2, _, M6, S6, w6, L6, T6, v6, hs6, Z6, h6, ev6, y6, n6, k6⟩ => ?_
 obtain ⟨q, J6⟩ := q
 simp only at v1 h6 k6
 subst v1
 have dn : d.n <= 31 := by unfold DO.n; omega
 have dn' : d'.n <= 31 := by unfold DO.n; omega
 have fw6 : M6.few 3400 300 := (y6.few fw5).le (by omega) (by omega)
 simp -implicitDefEqProofs only [l7', Nat.reduceAdd, Nat.reduceMul, Nat.reduceLT, Int.reduceToNat, Int.reduceAdd, Int.reduceSub, Int.reduceMul, rsU, s_ldI, s_ldU, s_ldS, s_ldP, s_gtI, s_gtU, s_gtS, s_bleD, Nat.reduceLeDiff, decide_true, decide_false]
 have hs6l : hs6.length <= 1 := by simpa using n6
 refine Ok.step (ev_go noT h6 (fw6.far h6.t.s.l.p.mi.ok (by decide)) ev6 hd' (by omega)) fun q ⟨u, now2, v3, v4, v5, M7, S7, w7, L7, T7, v7, hs7, Z7, h7, ev7, y7, _, k7⟩ => ?_
 obtain ⟨q, J7⟩ := q
 simp only at v3 h7 k7
 subst v3
 have fw7 : M7.few 3700 300 := (y7.few fw6).le (by omega) (by omega)
 have hi2 := v5 i t v2
 obtain ⟨has1, _⟩ := ev7.has hd hi2
 obtain ⟨has2, _⟩ := ev7.has hd' v4
 have two := ev7.two hd hd' hi2 v4
 simp -implicitDefEqProofs only [Nat.reduceAdd, Nat.reduceMul, Nat.reduceLT, Int.reduceToNat, Int.reduceAdd, Int.reduceSub, Int.reduceMul, rsU, s_ldI, s_ldU, s_ldS, s_ldP, s_gtI, s_gtU, s_gtS, s_bleD, Nat.reduceLeDiff, decide_true, decide_false]
 have h8 : MovAt noF (fun _ _ Z => Z = []) (J7.bump 1) J3.next sb nb lb pb mb M7 S7 w7 L7 T7 [J7.next] [] T.id v7 T.top hs7 Z7 := h7.turn noT (K := []) ⟨by simp, fun _ _ _ => rfl⟩ (by simp) (fun b hb => by simp at hb; subst hb; exact .inr ⟨Nat.le_refl _, by simp⟩)
 refine Ok.step (mov_header noT h8 (fw7.far h8.t.s.l.p.mi.ok (by decide)) has1) fun q ⟨j1, M8, h9, y8, k8⟩ => ?_
 obtain ⟨q, J8⟩ := q
 simp only at j1 h9 k8
 subst j1
 have fw8 : M8.few 3800 300 := (y8.few fw7).le (by omega) (by omega)
 generalize hA : J7.next = A at h8 h9 k8
 simp only [Hd.av]
 simp -implicitDefEqProofs only [Nat.reduceAdd, Nat.reduceMul, Nat.reduceLT, Int.reduceToNat, Int.reduceAdd, Int.reduceSub, Int.reduceMul, rsU, s_ldI, s_ldU, s_ldS, s_ldP, s_gtI, s_gtU, s_gtS, s_bleD, Nat.reduceLeDiff, decide_true, decide_false]
 generalize hJ : AH.put J8 A _ = J9
 have b9 : J9.blk A = some (.cells true 39 d.h.older.av) := by rw [<- hJ]; exact s_bs
 have n9 : J8.next = J9.next := by rw [<- hJ]; rfl
 have h10 := h9.turn noT (J' := J9) (K := [A]) (X' := [A]) ⟨by rw [<- hJ]; exact Nat.le_refl _, fun b hb hm => by rw [<- hJ]; exact s_bn (by simpa using hm)⟩ (by simp) (fun b hb => .inl hb)
 clear hJ
 rw [n9]
 have lA : A < J9.next := h10.lX A (by simp)
 have h11 : MovAt noF (fun _ _ Z => Z = []) (J9.bump 1) J3.next sb nb lb pb mb M8 S7 w7 L7 T7 [J9.next, A] [] T.id v7 T.top hs7 Z7 := h10.turn noT (K := []) ⟨by simp, fun _ _ _ => rfl⟩ (by simp) (fun b hb => by
  rcases List.mem_cons.1 hb with rfl | hb
  ·exact .inr ⟨Nat.le_refl _, by simp⟩
  ·exact .inl hb)
 refine Ok.step (mov_header noT h11 (fw8.far h11.t.s.l.p.mi.ok (by decide)) has2) fun q ⟨j3, M9, h12, y9, k9⟩ => ?_
 obtain ⟨q, J10⟩ := q
 simp only at j3 h12 k9
 subst j3
 have b10A := (k9.blk A (by simp)).trans b9
 generalize hB : J9.next = B at h11 h12 k9 lA
 have lB : B < J10.next := h12.lX B (by simp)
 have lA10 : A < J10.next := h12.lX A (by simp)
 simp only [Hd.av]
 simp -implicitDefEqProofs only [Nat.reduceAdd, Nat.reduceMul, Nat.reduceLT, Int.reduceToNat, Int.reduceAdd, Int.reduceSub, Int.reduceMul, rsU, s_ldI, s_ldU, s_ldS, s_ldP, s_gtI, s_gtU, s_gtS, s_bleD, Nat.reduceLeDiff, decide_true, decide_false]
 generalize hJ : AH.put J10 B _ = J11
 have b11B : J11.blk B = some (.cells true 39 d'.h.older.av) := by rw [<- hJ]; exact s_bs
 have b11A : J11.blk A = some (.cells true 39 d.h.older.av) := by rw [<- hJ, s_bn (by omega)]; exact b10A
 have n11 : J11.next = J10.next := by rw [<- hJ]; rfl
 clear hJ
 have eqik : ((i : Int) == (k : Int)) = (d.to t == d'.to u) := two.symm
 have tt : ((d.to t == d'.to u) == (d.to t == d'.to u)) = true := by simp
 have bA := b11A
 have bB := b11B
 simp only [Hd.av] at bA bB
 have a0 := fun J : AH O => (ld J).1
 have a1 := fun J : AH O => (ld J).2.1
 have a2 := fun J : AH O => (ld J).2.2.1
 have a3 := fun J : AH O => (ld J).2.2.2.1
 have a4 := fun J : AH O => (ld J).2.2.2.2.1
 have c0 := fun J : AH O => (ld' J).1
 have c1 := fun J : AH O => (ld' J).2.1
 have c2 := fun J : AH O => (ld' J).2.2.1
 have c3 := fun J : AH O => (ld' J).2.2.2.1
 have c4 := fun J : AH O => (ld' J).2.2.2.2.1
 simp only [DO.ov] at a0 a1 a2 a3 a4 c0 c1 c2 c3 c4
 simp -implicitDefEqProofs only [eqik, tt, t1, z0, bA, a0, a1, a2, a3, a4, Nat.reduceAdd, Nat.reduceMul, Nat.reduceLT, Int.reduceToNat, Int.reduceAdd, Int.reduceSub, Int.reduceMul, rsU, s_ldI, s_ldU, s_ldS, s_ldP, s_gtI, s_gtU, s_gtS, s_bleD, Nat.reduceLeDiff, decide_true, decide_false]
 refine Ok.step (rolderH_ok J11 okd.h) fun q ⟨r1, r2⟩ => ?_
 obtain ⟨q, J12⟩ := q
 simp only at r1 r2
 subst r1
 have bA2 := (r2.blk A (by omega)).trans bA
 have bB2 := (r2.blk B (by omega)).trans bB
 have q1 : ∀ z : Int, (z == z) = true := fun z => by simp
 have q2 : ∀ z : Bool, (z == z) = true := fun z => by simp
 simp only [Hd.av]
 simp -implicitDefEqProofs only [bA2, q1, q2, Bool.and_true, t1, bB2, c0, c1, c2, c3, c4, Nat.reduceAdd, Nat.reduceMul, Nat.reduceLT, Int.reduceToNat, Int.reduceAdd, Int.reduceSub, Int.reduceMul, rsU, s_ldI, s_ldU, s_ldS, s_ldP, s_gtI, s_gtU, s_gtS, s_bleD, Nat.reduceLeDiff, decide_true, decide_false]
 refine Ok.step (rolderH_ok J12 okd'.h) fun q ⟨r3, r4⟩ => ?_
 obtain ⟨q, J13⟩ := q
 simp only at r3 r4
 subst r3
 have n12 := r2.next
 have bB3 := (r4.blk B (by omega)).trans bB2
 simp only [Hd.av]
 simp -implicitDefEqProofs only [bB3, q1, q2, Bool.and_true, Nat.reduceAdd, Nat.reduceMul, Nat.reduceLT, Int.reduceToNat, Int.reduceAdd, Int.reduceSub, Int.reduceMul, rsU, s_ldI, s_ldU, s_ldS, s_ldP, s_gtI, s_gtU, s_gtS, s_bleD, Nat.reduceLeDiff, decide_true, decide_false]
 exact Ok_some.2 rfl
end Go.Abs.Tryz
