/-
  A store that turns: its near space has an old one beside it. No conditions.
-/
import Derived.Test.YtncohicmiihjiaaGreatM16
import Derived.Test.YtncohicmiihjiaaGreatM15
import Derived.Test.YtncohicmiihjiaaGreatAbsIn
set_option linter.unusedVariables false
set_option linter.unusedSimpArgs false
set_option linter.constructorNameAsVariable false
set_option linter.unusedSimpArgs false
set_option linter.unusedVariables false
set_option linter.unusedSectionVars false
set_option maxHeartbeats 2000000
namespace Go.Abs.Tryz
open Go Go.Abs
variable {O : Type}
theorem Objs.sideIn {M M' : MemS} {V : Nat -> Option (Int × Int × Int)} {sid : Int} {ob : Nat -> Option (List Int)} {ep : Int} {H : List Nat} {Z : List Int} {id : Int} (h : Objs M V sid ob ep H Z) (hz : id ∈ Z) (hw : ∀ y v, y ≠ id -> wordsOf M.sp y = some v -> wordsOf M'.sp y = some v) (hid : wordsOf M'.sp id ≠ none) : Objs M' V sid ob ep H Z :=
 ⟨h.non, fun i ws ho => by
  obtain ⟨sp, mk, a1, a2, a3, a4, a5, a6, a7⟩ := h.at_ i ws ho
  exact ⟨sp, mk, a1, a2, a3, a4, hw sp ws (fun e => a7 (by rw [e]; exact hz)) a5, a6, a7⟩, h.apart, fun y hy => ⟨by
  by_cases e : y = id
  ·rw [e]; exact hid
  ·obtain ⟨g1, g2⟩ := h.others y hy
   cases hv : wordsOf M.sp y with
   | none => exact absurd hv g1
   | some v => rw [hw y v e hv]; simp, (h.others y hy).2⟩⟩
theorem within_sideN (J : AH O) (id top at_ n : Int) (h0 : 0 <= top /\ top <= 4194304) (h1 : 0 <= at_) (h2 : 0 <= n) (h3 : at_ + n <= top) : Ok (qka [.agg [.i .i64 id, .i .i64 top], .i .i64 at_, .i .i64 n] J) fun r => r.1 = .b true /\ Ext J r.2 := by
 have d1 := decide_eq_true h2
 have d2 := decide_eq_true h1
 have d3 := decide_eq_true (show at_ <= top by omega)
 have d4 := decide_eq_true (show n <= top - at_ by omega)
 simp (maxSteps := 2000000) -implicitDefEqProofs (disch := (first | omega | rfl | assumption | (simp only [rsD]; first | omega | assumption))) only [qka, qj9, ge_iff_le, d1, d2, d3, d4, Nat.reduceAdd, Nat.reduceMul, Nat.reduceLT, Int.reduceToNat, Int.reduceAdd, Int.reduceSub, Int.reduceMul, rsU, rsC]
 exact Ok_some.2 ⟨rfl, (ext_of (by simp only [put_next, bump_next, kill_next]; omega) (fun b hb => by simp -implicitDefEqProofs (disch := (first | omega | rfl | assumption | (simp only [rsD]; first | omega | assumption))) only [s_bn, s_kn, bump_blk, s_ext]))⟩
theorem copyXT {J : AH O} {mb : Nat} {M : MemS} {X : List Nat} (h : MemIn J mb M X) (hc : M.calm) {fr at_ to de n : Int} (ha : -9223372036854775808 <= at_ /\ at_ <= 9223372036854775807) (hd : -9223372036854775808 <= de /\ de <= 9223372036854775807) :
  Ok (qo8 [.p (some (.n mb, 0)), .i .i64 fr, .i .i64 at_, .i .i64 to, .i .i64 de, .i .i64 n] J) fun r => r.1 = .i .i64 (M.copyR fr at_ to de n).2 /\ MemIn r.2 mb (M.copyR fr at_ to de n).1 X /\ Keep X J r.2 := by
 have key : ∀ F, MemAt J mb F M -> Ok (qo8 [.p (some (.n mb, 0)), .i .i64 fr, .i .i64 at_, .i .i64 to, .i .i64 de, .i .i64 n] J) fun r => r.1 = .i .i64 (M.copyR fr at_ to de n).2 /\ Behind J mb F (M.copyR fr at_ to de n).1 r.2 := fun F hF => copyT hF h.ok hc ha hd
 have hh := h
 obtain ⟨F, g1, _⟩ := hh
 obtain ⟨r, e, p1, _⟩ := key F g1
 refine ⟨r, e, p1, ?_⟩
 exact h.behind (F := F) (J' := r.2) fun F hF => by
  obtain ⟨r', e', _, b⟩ := key F hF
  rw [e] at e'; cases e'; exact b
structure Turns (J : AH O) (sb nb lb pb mb : Nat) (M : MemS) (S : PoolS) (w : List Int) (L : LarS) (T : StoS) (X : List Nat) (Y : List Int) (oid : Int) (v : List Int) (ot : Nat) : Prop where
 s : StoAt J sb nb lb pb mb M S w L T X (oid :: Y)
 old : T.old = [.i .i64 oid, .i .i64 (ot : Int), .b true]
 w : wordsOf M.sp oid = some v
 top : ot <= v.length
section
variable {J : AH O} {sb nb lb pb mb : Nat} {M : MemS} {S : PoolS} {w : List Int} {L : LarS} {T : StoS} {X : List Nat} {Y : List Int} {oid : Int} {v : List Int} {ot : Nat} (h : Turns J sb nb lb pb mb M S w L T X Y oid v ot)
include h
theorem Turns.ext {J' : AH O} (e : Ext J J') : Turns J' sb nb lb pb mb M S w L T X Y oid v ot := ⟨h.s.ext e, h.old, h.w, h.top⟩
theorem Turns.vl : v.length <= 4194304 := h.s.l.p.mi.wlen h.w
theorem Turns.ne : T.id ≠ oid := fun e => h.s.oY (by simp [e])
theorem Turns.n : ∃ el, J.blk nb = some (.cells true el [.p (some (.n mb, 0)), .i .i64 T.id, .i .i64 (T.top : Int), .i .i64 oid, .i .i64 (ot : Int), .b true]) := by
 obtain ⟨el, hb⟩ := h.s.n
 exact ⟨el, by rw [hb]; simp only [StoS.near, h.old]⟩
theorem Turns.olded {J' : AH O} {M' : MemS} {v' : List Int} (hi : MemIn J' mb M' (pb :: lb :: nb :: sb :: X)) (kp : Keep (pb :: lb :: nb :: sb :: X) J J') (hw : ∀ y u, y ≠ oid -> wordsOf M.sp y = some u -> wordsOf M'.sp y = some u) (hn : wordsOf M'.sp oid = some v') (hl : v'.length = v.length) : Turns J' sb nb lb pb mb M' S w L T X Y oid v' ot := by
 have hne : S.id ≠ oid := (h.s.l.o.others oid (by simp)).2.symm
 obtain ⟨el, hb⟩ := h.s.l.b
 obtain ⟨el2, hb2⟩ := h.s.n
 obtain ⟨el3, hb3⟩ := h.s.s
 exact ⟨{ l := { h.s.l with p := { h.s.l.p with mi := hi, b := (kp.blk _ (by simp)).trans h.s.l.p.b, now := hw _ _ hne h.s.l.p.now }, b := ⟨el, (kp.blk _ (by simp)).trans hb⟩, o := h.s.l.o.sideIn (by simp) hw (by rw [hn]; simp) }, n := ⟨el2, (kp.blk _ (by simp)).trans hb2⟩, s := ⟨el3, (kp.blk _ (by simp)).trans hb3⟩, now := hw _ _ h.ne h.s.now, top := h.s.top, nd := h.s.nd, oY := h.s.oY }, h.old, hn, by rw [hl]; exact h.top⟩
theorem tpast_ok {at_ n : Int} (h1 : 0 <= at_) (h2 : 0 <= n) (h3 : at_ + n <= ot) : Ok (qoj [.p (some (.n nb, 0)), .i .i64 at_, .i .i64 n] J) fun r => r.1 = .i .i64 0 /\ Ext J r.2 := by
 obtain ⟨el, hb⟩ := h.n
 have hv := h.vl
 have ht := h.top
 simp (maxSteps := 2000000) -implicitDefEqProofs (disch := (first | omega | rfl | assumption | (simp only [rsD]; first | omega | assumption))) only [qoj, qoi, hb, Bool.not_true, Nat.reduceAdd, Nat.reduceMul, Nat.reduceLT, Int.reduceToNat, Int.reduceAdd, Int.reduceSub, Int.reduceMul, rsU, rsC]
 refine Ok.step (within_sideN J oid ot at_ n (by omega) h1 h2 h3) fun r ⟨g1, g2⟩ => ?_
 obtain ⟨q, J1⟩ := r
 simp only at g1 g2
 subst g1
 simp (maxSteps := 2000000) -implicitDefEqProofs (disch := (first | omega | rfl | assumption | (simp only [rsD]; first | omega | assumption))) only [Bool.not_true, Nat.reduceAdd, Nat.reduceMul, Nat.reduceLT, Int.reduceToNat, Int.reduceAdd, Int.reduceSub, Int.reduceMul, rsU, rsC]
 exact Ok_some.2 ⟨rfl, g2⟩
variable (hf : M.far 100)
include hf
theorem treadold_ok {at_ : Nat} (ha : at_ < ot) : Ok (qoo [.p (some (.n nb, 0)), .i .i64 (at_ : Int)] J) fun r => r.1 = .tup [.i .u64 (v.getD at_ 0), .i .i64 0] /\ ∃ M', Turns r.2 sb nb lb pb mb M' S w L T X Y oid v ot /\ Beh Y M M' 1 0 0 /\ Tk M M' 1 /\ Keep X J r.2 := by
 obtain ⟨el, hb⟩ := h.n
 have hv := h.vl
 have ht := h.top
 have z0 : ((0 : Int) == 0) = true := rfl
 simp (maxSteps := 2000000) -implicitDefEqProofs (disch := (first | omega | rfl | assumption | (simp only [rsD]; first | omega | assumption))) only [qoo, qon, Nat.reduceAdd, Nat.reduceMul, Nat.reduceLT, Int.reduceToNat, Int.reduceAdd, Int.reduceSub, Int.reduceMul, rsU, rsC]
 refine Ok.step (tpast_ok h (at_ := (at_ : Int)) (n := 1) (by omega) (by omega) (by omega)) fun r ⟨g1, g2⟩ => ?_
 obtain ⟨q, J1⟩ := r
 simp only at g1 g2
 subst g1
 have h1 := h.ext g2
 have hb1 := (g2.blk _ h.s.nlt).trans hb
 simp (maxSteps := 2000000) -implicitDefEqProofs (disch := (first | omega | rfl | assumption | (simp only [rsD]; first | omega | assumption))) only [hb1, bne, z0, Bool.not_true, Nat.reduceAdd, Nat.reduceMul, Nat.reduceLT, Int.reduceToNat, Int.reduceAdd, Int.reduceSub, Int.reduceMul, rsU, rsC]
 refine Ok.step (readXT h1.s.l.p.mi (hf.calm (by decide)) (id := oid) (at_ := (at_ : Int)) (by omega)) fun r ⟨k1, k2, k3⟩ => ?_
 obtain ⟨q, J2⟩ := r
 rw [readR_of h.w, if_pos (by omega)] at k1 k2
 simp only at k1 k2 k3
 subst k1
 simp (maxSteps := 2000000) -implicitDefEqProofs (disch := (first | omega | rfl | assumption | (simp only [rsD]; first | omega | assumption))) only [Nat.reduceAdd, Nat.reduceMul, Nat.reduceLT, Int.reduceToNat, Int.reduceAdd, Int.reduceSub, Int.reduceMul, rsU, rsC]
 have hnear := h1.olded (v' := v) k2 k3 (fun y u _ hu => hu) h.w rfl
 exact Ok_some.2 ⟨rfl, M.rd 1, hnear, Beh.rd, by simp only [Tk, MemS.rd]; omega, ((h.s.l.p.mi.keepExt g2).trans k3).mono fun b hb => by simp [hb]⟩
theorem twriteold_ok {at_ : Nat} {x : Int} (ha : at_ < ot) (hY : oid ∉ Y) : Ok (qpn [.p (some (.n nb, 0)), .i .i64 (at_ : Int), .i .u64 x] J) fun r => r.1 = .i .i64 0 /\ ∃ M', Turns r.2 sb nb lb pb mb M' S w L T X Y oid (v.set at_ x) ot /\ Beh Y M M' 1 0 0 /\ Tk M M' 1 /\ Keep X J r.2 := by
 obtain ⟨el, hb⟩ := h.n
 have hv := h.vl
 have ht := h.top
 have z0 : ((0 : Int) == 0) = true := rfl
 simp (maxSteps := 2000000) -implicitDefEqProofs (disch := (first | omega | rfl | assumption | (simp only [rsD]; first | omega | assumption))) only [qpn, qpm, Nat.reduceAdd, Nat.reduceMul, Nat.reduceLT, Int.reduceToNat, Int.reduceAdd, Int.reduceSub, Int.reduceMul, rsU, rsC]
 refine Ok.step (tpast_ok h (at_ := (at_ : Int)) (n := 1) (by omega) (by omega) (by omega)) fun r ⟨g1, g2⟩ => ?_
 obtain ⟨q, J1⟩ := r
 simp only at g1 g2
 subst g1
 have h1 := h.ext g2
 have hb1 := (g2.blk _ h.s.nlt).trans hb
 simp (maxSteps := 2000000) -implicitDefEqProofs (disch := (first | omega | rfl | assumption | (simp only [rsD]; first | omega | assumption))) only [hb1, bne, z0, Bool.not_true, Nat.reduceAdd, Nat.reduceMul, Nat.reduceLT, Int.reduceToNat, Int.reduceAdd, Int.reduceSub, Int.reduceMul, rsU, rsC]
 refine Ok.step (writeXT h1.s.l.p.mi (hf.calm (by decide)) (id := oid) (at_ := (at_ : Int)) (x := x) (by omega)) fun r ⟨k1, k2, k3⟩ => ?_
 obtain ⟨q, J2⟩ := r
 rw [writeR_of h.w, if_pos (by omega)] at k1 k2
 simp only at k1 k2 k3
 subst k1
 simp (maxSteps := 2000000) -implicitDefEqProofs (disch := (first | omega | rfl | assumption | (simp only [rsD]; first | omega | assumption))) only [Nat.reduceAdd, Nat.reduceMul, Nat.reduceLT, Int.reduceToNat, Int.reduceAdd, Int.reduceSub, Int.reduceMul, rsU, rsC]
 have h0 := (wordsOf_some h.w).1
 rw [Int.toNat_natCast] at k2
 have hnear := h1.olded (v' := v.set at_ x) k2 k3 (fun y u hy hu => (wordsOf_other hy h0).trans hu) (wordsOf_mk h0 (by simp [MemS.put, MemS.wr, (List.getElem?_eq_some_iff.1 (wordsOf_some h.w).2).1])) (by simp)
 exact Ok_some.2 ⟨rfl, _, hnear, Beh.wrp h0 hY, by simp only [Tk, MemS.wr, MemS.put]; omega, ((h.s.l.p.mi.keepExt g2).trans k3).mono fun b hb => by simp [hb]⟩
end
end Go.Abs.Tryz
namespace Go.Abs.Tryz
open Go Go.Abs
variable {O : Type}
theorem wrongN {l : Sps} {id at_ n : Int} {w : List Int} (hw : wordsOf l id = some w) (h0 : 0 <= at_) (h1 : 0 <= n) (h2 : at_ + n <= w.length) : wrongR l id at_ n = 0 := by
 unfold wrongR
 rw [hw]
 exact if_neg (by omega)
def movedW (ws v : List Int) (top at_ n : Nat) : List Int := patched ws top ((v.drop at_).take n)
section
variable {J : AH O} {sb nb lb pb mb : Nat} {M : MemS} {S : PoolS} {w : List Int} {L : LarS} {T : StoS} {X : List Nat} {Y : List Int} {oid : Int} {v : List Int} {ot : Nat} (h : Turns J sb nb lb pb mb M S w L T X Y oid v ot) (hf : M.far 10000)
include h hf
theorem tmove_ok {at_ n : Nat} (h1 : 1 <= n) (h2 : at_ + n <= ot) (h3 : T.top + n <= T.ws.length) (hT : T.id ∉ Y) : Ok (qpd [.p (some (.n nb, 0)), .i .i64 (at_ : Int), .i .i64 (n : Int)] J) fun r => r.1 = .tup [.i .i64 (T.top : Int), .i .i64 0] /\ ∃ M', Turns r.2 sb nb lb pb mb M' S w L { T with ws := movedW T.ws v T.top at_ n, top := T.top + n } X Y oid v ot /\ Beh Y M M' (2 * n) 0 0 /\ Tk M M' (2 * n) /\ Keep X J r.2 := by
 have hv := h.vl
 have ht := h.top
 have htl := h.s.tl
 have z0 : ((0 : Int) == 0) = true := rfl
 simp (maxSteps := 2000000) -implicitDefEqProofs (disch := (first | omega | rfl | assumption | (simp only [rsD]; first | omega | assumption))) only [qpd, qpc, Nat.reduceAdd, Nat.reduceMul, Nat.reduceLT, Int.reduceToNat, Int.reduceAdd, Int.reduceSub, Int.reduceMul, rsU, rsC]
 refine Ok.step (tpast_ok h (at_ := (at_ : Int)) (n := (n : Int)) (by omega) (by omega) (by omega)) fun r ⟨g1, g2⟩ => ?_
 obtain ⟨q, J1⟩ := r
 simp only at g1 g2
 subst g1
 simp (maxSteps := 2000000) -implicitDefEqProofs (disch := (first | omega | rfl | assumption | (simp only [rsD]; first | omega | assumption))) only [bne, z0, Bool.not_true, Nat.reduceAdd, Nat.reduceMul, Nat.reduceLT, Int.reduceToNat, Int.reduceAdd, Int.reduceSub, Int.reduceMul, rsU, rsC]
 refine Ok.step (stake_ok (h.ext g2).s h1 h3) fun r ⟨k1, k2, k3⟩ => ?_
 obtain ⟨q, J2⟩ := r
 simp only at k1 k2 k3
 subst k1
 have H2 : Turns J2 sb nb lb pb mb M S w L { T with top := T.top + n } X Y oid v ot := ⟨k2, h.old, h.w, h.top⟩
 obtain ⟨el, hb⟩ := H2.n
 simp (maxSteps := 2000000) -implicitDefEqProofs (disch := (first | omega | rfl | assumption | (simp only [rsD]; first | omega | assumption))) only [z0, Bool.not_true, hb, Nat.reduceAdd, Nat.reduceMul, Nat.reduceLT, Int.reduceToNat, Int.reduceAdd, Int.reduceSub, Int.reduceMul, rsU, rsC]
 refine Ok.step (copyXT H2.s.l.p.mi (hf.calm (by decide)) (fr := oid) (at_ := (at_ : Int)) (to := T.id) (de := (T.top : Int)) (n := (n : Int)) (by omega) (by omega)) fun r ⟨p1, p2, p3⟩ => ?_
 obtain ⟨q, J3⟩ := r
 have hR : M.copyR oid at_ T.id T.top n = ((((M.rd n).wr n).put T.id.toNat (movedW T.ws v T.top at_ n)), 0) := by
  unfold MemS.copyR
  rw [wrongN h.w (by omega) (by omega) (by omega), wrongN h.s.now (by omega) (by omega) (by omega), h.s.now, h.w]
  simp [movedW]
 rw [hR] at p1 p2
 simp only at p1 p2 p3
 subst p1
 simp (maxSteps := 2000000) -implicitDefEqProofs (disch := (first | omega | rfl | assumption | (simp only [rsD]; first | omega | assumption))) only [Nat.reduceAdd, Nat.reduceMul, Nat.reduceLT, Int.reduceToNat, Int.reduceAdd, Int.reduceSub, Int.reduceMul, rsU, rsC]
 have hl : (movedW T.ws v T.top at_ n).length = T.ws.length := patched_len (by simp; omega)
 have h0 := (wordsOf_some h.s.now).1
 have hn := H2.s.neared (ws := movedW T.ws v T.top at_ n) p2 p3 (fun y u hy hu => (wordsOf_other hy h0).trans hu) (wordsOf_mk h0 (by simp [MemS.put, MemS.wr, MemS.rd, (List.getElem?_eq_some_iff.1 (wordsOf_some h.s.now).2).1])) hl
 refine Ok_some.2 ⟨rfl, _, ⟨hn, h.old, (wordsOf_other h.ne.symm h0).trans h.w, h.top⟩, ⟨by simp only [MemS.rd, MemS.wr, MemS.put]; omega, by simp only [MemS.rd, MemS.wr, MemS.put]; omega, by simp only [MemS.rd, MemS.wr, MemS.put]; omega, by simp only [MemS.rd, MemS.wr, MemS.put]; omega, by simp only [MemS.rd, MemS.wr, MemS.put]; omega, fun y hy => wordsOf_other (fun e => hT (e ▸ hy)) h0⟩, by simp only [Tk, MemS.rd, MemS.wr, MemS.put]; omega, ?_⟩
 exact (((h.s.l.p.mi.keepExt g2).mono fun b hb => by simp [hb]).trans k3).trans (p3.mono fun b hb => by simp [hb])
end
theorem Objs.more {M M' : MemS} {V : Nat -> Option (Int × Int × Int)} {sid : Int} {ob : Nat -> Option (List Int)} {ep : Int} {H : List Nat} {Z : List Int} {id : Int} (h : Objs M V sid ob ep H Z) (hw : ∀ y v, wordsOf M.sp y = some v -> wordsOf M'.sp y = some v) (hnew : wordsOf M.sp id = none) (hid : wordsOf M'.sp id ≠ none) (hs : sid ≠ id) : Objs M' V sid ob ep H (id :: Z) :=
 ⟨h.non, fun i ws ho => by
  obtain ⟨sp, mk, a1, a2, a3, a4, a5, a6, a7⟩ := h.at_ i ws ho
  refine ⟨sp, mk, a1, a2, a3, a4, hw _ _ a5, a6, fun hm => ?_⟩
  rcases List.mem_cons.1 hm with e | e
  ·rw [e, hnew] at a5; cases a5
  ·exact a7 e, h.apart, fun y hy => by
  rcases List.mem_cons.1 hy with e | e
  ·rw [e]; exact ⟨hid, fun e2 => hs e2.symm⟩
  ·obtain ⟨g1, g2⟩ := h.others y e
   refine ⟨?_, g2⟩
   cases hv : wordsOf M.sp y with
   | none => exact absurd hv g1
   | some v => rw [hw y v hv]; simp⟩
theorem sflip_turns {J : AH O} {sb nb lb pb mb : Nat} {M : MemS} {S : PoolS} {w : List Int} {L : LarS} {T : StoS} {X : List Nat} {Y : List Int} (h : StoAt J sb nb lb pb mb M S w L T X Y) (hf : M.far 100) (hcnt : M.count < 262144) {a b : Int} (hold : T.old = [.i .i64 a, .i .i64 b, .b false]) :
  Ok (qnz [.p (some (.n nb, 0)), .i .i64 (T.top : Int)] J) fun r => r.1 = .i .i64 0 /\ ∃ M', Turns r.2 sb nb lb pb mb M' S w L ⟨(ff M.sp : Nat), List.replicate T.top 0, 0, [.i .i64 T.id, .i .i64 (T.top : Int), .b true], T.small⟩ X Y T.id T.ws T.top /\ Beh Y M M' 0 T.top 1 /\ Tk M M' 0 /\ Keep X J r.2 := by
 obtain ⟨el, hb⟩ := h.n
 simp only [StoS.near, hold] at hb
 have htl := h.tl
 have htp := h.top
 have z0 : ((0 : Int) == 0) = true := rfl
 simp (maxSteps := 2000000) -implicitDefEqProofs (disch := (first | omega | rfl | assumption | (simp only [rsD]; first | omega | assumption))) only [qnz, qny, hb, Nat.reduceAdd, Nat.reduceMul, Nat.reduceLT, Int.reduceToNat, Int.reduceAdd, Int.reduceSub, Int.reduceMul, rsU, rsC]
 refine Ok.step (openXT h.l.p.mi (hf.calm (by decide)) (n := (T.top : Int))) fun r ⟨p1, p2, p3⟩ => ?_
 obtain ⟨q, J1⟩ := r
 have hR : M.opnR T.top = (M.opn (ff M.sp) T.top, (ff M.sp : Int), 0) := by
  unfold MemS.opnR
  rw [if_neg (by omega), if_neg (by omega), if_neg (by omega)]
 rw [hR] at p1 p2
 simp only at p1 p2 p3
 subst p1
 have hb1 := (p3.blk nb (by simp)).trans hb
 simp (maxSteps := 2000000) -implicitDefEqProofs (disch := (first | omega | rfl | assumption | (simp only [rsD]; first | omega | assumption))) only [bne, z0, Bool.not_true, hb1, Nat.reduceAdd, Nat.reduceMul, Nat.reduceLT, Int.reduceToNat, Int.reduceAdd, Int.reduceSub, Int.reduceMul, rsU, rsC]
 have hfr := ff_free M.sp
 have hnone : wordsOf M.sp (ff M.sp : Int) = none := by
  cases hw : wordsOf M.sp (ff M.sp : Int) with
  | none => rfl
  | some u =>
   have := (wordsOf_some hw).2
   rw [Int.toNat_natCast] at this
   have := hfr.here _ this
   cases this
 have keep : ∀ y u, wordsOf M.sp y = some u -> wordsOf (M.opn (ff M.sp) T.top).sp y = some u := fun y u hu => by
  obtain ⟨k0, k1⟩ := wordsOf_some hu
  refine wordsOf_mk k0 ?_
  show (putAt M.sp (ff M.sp) _)[y.toNat]? = _
  rw [putAt_get hfr.le, if_neg]
  ·exact k1
  ·intro e
   rw [show y = ((ff M.sp : Nat) : Int) by omega, hnone] at hu; cases hu
 have hnew : wordsOf (M.opn (ff M.sp) T.top).sp (ff M.sp : Int) = some (List.replicate T.top 0) := by
  refine wordsOf_mk (Int.natCast_nonneg _) ?_
  show (putAt M.sp (ff M.sp) _)[(ff M.sp : Int).toNat]? = _
  rw [putAt_get hfr.le, Int.toNat_natCast, if_pos rfl, Int.toNat_natCast]
 have hs : S.id ≠ (ff M.sp : Int) := fun e => by
  have := h.l.p.now
  rw [e, hnone] at this; cases this
 obtain ⟨el2, hb2⟩ := h.l.b
 obtain ⟨el3, hb3⟩ := h.s
 have L1 : LarAt J1 lb pb mb (M.opn (ff M.sp) T.top) S w L (nb :: sb :: X) ((ff M.sp : Int) :: T.id :: Y) :=
  { h.l with p := { h.l.p with mi := p2, b := (p3.blk _ (by simp)).trans h.l.p.b, now := keep _ _ h.l.p.now }, b := ⟨el2, (p3.blk _ (by simp)).trans hb2⟩, o := h.l.o.more keep hnone (by rw [hnew]; simp) hs }
 have bh : Beh Y M (M.opn (ff M.sp) T.top) 0 T.top 1 := h.l.p.mi.ok.opn' (by omega) (by omega) hcnt fun y hy => (h.l.o.others y (by simp [hy])).1
 have oY : (ff M.sp : Int) ∉ T.id :: Y := fun hm => (h.l.o.others _ hm).1 hnone
 refine Ok_some.2 ⟨rfl, _, ⟨⟨L1.turn (K := [nb]) ⟨by simp, fun c hc hm => s_bn (by simpa using hm)⟩ (fun c hc => .inl (by simp at hc; simp [hc])) (fun b hb => .inl hb), ⟨el, s_bs⟩, ⟨el3, (s_bn h.nd.1.symm).trans ((p3.blk _ (by simp)).trans hb3)⟩, hnew, Nat.zero_le _, h.nd, oY⟩, rfl, keep _ _ h.now, htp⟩, bh, by simp [Tk, MemS.opn, Met.hold], ?_⟩
 exact (p3.mono fun b hb => by simp [hb]).trans (Keep.put h.nd.2.1 _)
end Go.Abs.Tryz
namespace Go.Abs.Tryz
open Go Go.Abs
variable {O : Type}
noncomputable abbrev tellV : List (Nat × Sm O) := [(57, ql9), (50, qnf), (15, qps)]
structure Teller (f : Fn × List AV × List AV) (Tw : List Hd -> AH O -> List Nat -> Prop) : Prop where
 call : ∀ {hs : List Hd} {J : AH O} {Z : List Nat} {hd : Hd}, Tw hs J Z -> hd.ok -> (∀ b ∈ Z, b < J.next) -> hs.length < 1000 -> Ok (callV tellV (some f) [.agg hd.av] J) fun r => r.1 = .tup [] /\ ∃ Z', Tw (hs ++ [hd]) r.2 Z' /\ Chg Z J r.2 /\ ∀ b ∈ Z', b ∈ Z ∨ (J.next <= b /\ b < r.2.next)
 keep : ∀ {hs : List Hd} {J J' : AH O} {Z : List Nat}, Tw hs J Z -> Keep Z J J' -> Tw hs J' Z
structure MovAt (f : Fn × List AV × List AV) (Tw : List Hd -> AH O -> List Nat -> Prop) (J : AH O) (eb sb nb lb pb mb : Nat) (M : MemS) (S : PoolS) (w : List Int) (L : LarS) (T : StoS) (X : List Nat) (Y : List Int) (oid : Int) (v : List Int) (ot : Nat) (hs : List Hd) (Z : List Nat) : Prop where
 t : Turns J sb nb lb pb mb M S w L T (eb :: (Z ++ X)) Y oid v ot
 b : J.blk eb = some (.cells true T_evac_Mover [.p (some (.n sb, 0)), .fn (some f), .i .i64 (hs.length : Int)])
 nx : eb ∉ Z /\ eb ∉ X
 nz : ∀ b ∈ Z, b ∉ X
 j : Tw hs J Z
section
variable {f : Fn × List AV × List AV} {Tw : List Hd -> AH O -> List Nat -> Prop} (tl : Teller f Tw) {J : AH O} {eb sb nb lb pb mb : Nat} {M : MemS} {S : PoolS} {w : List Int} {L : LarS} {T : StoS} {X Z : List Nat} {Y : List Int} {oid : Int} {v : List Int} {ot : Nat} {hs : List Hd} (h : MovAt f Tw J eb sb nb lb pb mb M S w L T X Y oid v ot hs Z)
include h
theorem MovAt.lt : eb < J.next := h.t.s.lt eb (by simp)
theorem MovAt.lX : ∀ b ∈ X, b < J.next := fun b hb => h.t.s.lt b (by simp [hb])
theorem MovAt.lZ : ∀ b ∈ Z, b < J.next := fun b hb => h.t.s.lt b (by simp [hb])
include tl
theorem MovAt.ext {J' : AH O} (e : Ext J J') : MovAt f Tw J' eb sb nb lb pb mb M S w L T X Y oid v ot hs Z := ⟨h.t.ext e, (e.blk _ h.lt).trans h.b, h.nx, h.nz, tl.keep h.j ⟨e.next, fun b hb => e.blk b (h.lZ b hb)⟩⟩
theorem MovAt.as {J' : AH O} {M' : MemS} {S' : PoolS} {w' : List Int} {L' : LarS} {T' : StoS} {v' : List Int} (t : Turns J' sb nb lb pb mb M' S' w' L' T' (eb :: (Z ++ X)) Y oid v' ot) (k : Keep (eb :: (Z ++ X)) J J') : MovAt f Tw J' eb sb nb lb pb mb M' S' w' L' T' X Y oid v' ot hs Z := ⟨t, (k.blk _ (by simp)).trans h.b, h.nx, h.nz, tl.keep h.j (k.mono fun b hb => by simp [hb])⟩
theorem tell_ok {hd : Hd} (k : hd.ok) (hn : hs.length < 1000) : Ok (qpx [.p (some (.n eb, 0)), .i .u64 (hd.word : Int)] J) fun r => r.1 = .tup [] /\ ∃ Z', MovAt f Tw r.2 eb sb nb lb pb mb M S w L T X Y oid v ot (hs ++ [hd]) Z' /\ Keep X J r.2 := by
 have hb := h.b
 have hl := h.lt
 simp (maxSteps := 2000000) -implicitDefEqProofs (disch := (first | omega | rfl | assumption | (simp only [rsD]; first | omega | assumption))) only [qpx, qpw, Nat.reduceAdd, Nat.reduceMul, Nat.reduceLT, Int.reduceToNat, Int.reduceAdd, Int.reduceSub, Int.reduceMul, rsU, rsC]
 refine Ok.step (unpack_hd _ k) fun q ⟨q1, q2⟩ => ?_
 obtain ⟨q, J1⟩ := q
 simp only at q1 q2
 subst q1
 have nx := q2.next
 simp only [rsD] at nx
 have hb1 : J1.blk eb = some (.cells true T_evac_Mover [.p (some (.n sb, 0)), .fn (some f), .i .i64 (hs.length : Int)]) := by rw [q2.blk eb (by simp only [rsD]; omega)]; exact hb
 simp only [Hd.av]
 have ne : eb ≠ J.next := by omega
 simp (maxSteps := 2000000) -implicitDefEqProofs (disch := (first | omega | rfl | assumption | (simp only [rsD]; first | omega | assumption))) only [hb1, Nat.reduceAdd, Nat.reduceMul, Nat.reduceLT, Int.reduceToNat, Int.reduceAdd, Int.reduceSub, Int.reduceMul, rsU, rsC]
 generalize hJ : AH.put _ eb _ = J2
 have n2 : J2.next = J1.next := by rw [<- hJ]; rfl
 have b2 : J2.blk eb = some (.cells true T_evac_Mover [.p (some (.n sb, 0)), .fn (some f), .i .i64 ((hs.length : Int) + 1)]) := by rw [<- hJ]; exact s_bs
 have c2 : Chg [eb] J J2 := ⟨by omega, fun b hb hm => by
  have hm : b ≠ eb := by simpa using hm
  rw [<- hJ]
  ((have x0 := (q2).next); (try simp only [rsD] at *); simp -implicitDefEqProofs (disch := (first | omega | rfl | assumption | (simp only [rsD]; first | omega | assumption))) only [s_bs, s_bn, s_kn, bump_blk, s_ext (q2)])⟩
 clear hJ
 have t2 : StoAt J2 sb nb lb pb mb M S w L T (eb :: (Z ++ X)) (oid :: Y) := h.t.s.turn (K := [eb]) c2 (fun b hb => .inl (by simp at hb; simp [hb])) (fun b hb => .inl hb)
 have k2 : ∀ b ∈ Z ++ X, J2.blk b = J.blk b := fun c hc => c2.blk c (h.t.s.lt c (List.mem_cons_of_mem _ hc)) (by
  simp only [List.mem_singleton]
  intro hce
  rw [hce] at hc
  rcases List.mem_append.1 hc with hc | hc
  ·exact h.nx.1 hc
  ·exact h.nx.2 hc)
 have j2 : Tw hs J2 Z := tl.keep h.j ⟨c2.next, fun b hb => k2 b (by simp [hb])⟩
 refine Ok.step (tl.call j2 k (fun b hb => t2.lt b (by simp [hb])) hn) fun q ⟨p1, Z', p2, p3, p4⟩ => ?_
 obtain ⟨q, J3⟩ := q
 simp only at p1 p2 p3 p4
 subst p1
 have lt2 : eb < J2.next := t2.lt eb (by simp)
 have lX2 : ∀ b ∈ X, b < J2.next := fun b hb => t2.lt b (by simp [hb])
 have t3 : StoAt J3 sb nb lb pb mb M S w L T (eb :: (Z' ++ X)) (oid :: Y) := t2.turn p3 (fun b hb => .inl (by simp [hb])) (fun b hb => by
  simp only [List.mem_cons, List.mem_append] at hb ⊢
  rcases hb with hb | hb | hb
  ·exact .inl (.inl hb)
  ·rcases p4 b hb with g | g
   ·exact .inl (.inr (.inl g))
   ·exact .inr g
  ·exact .inl (.inr (.inr hb)))
 have x3 : ∀ b ∈ X, b ∉ Z := fun b hb hz => h.nz b hz hb
 have b3 := (p3.blk eb lt2 h.nx.1).trans b2
 simp (maxSteps := 2000000) -implicitDefEqProofs (disch := (first | omega | rfl | assumption | (simp only [rsD]; first | omega | assumption))) only [Nat.reduceAdd, Nat.reduceMul, Nat.reduceLT, Int.reduceToNat, Int.reduceAdd, Int.reduceSub, Int.reduceMul, rsU, rsC]
 refine Ok_some.2 ⟨rfl, Z', ⟨⟨t3, h.t.old, h.t.w, h.t.top⟩, by rw [b3, List.length_append]; rfl, ⟨fun hz => ?_, h.nx.2⟩, fun b hz hx => ?_, p2⟩, ⟨Nat.le_trans c2.next p3.next, fun b hb => ?_⟩⟩
 ·rcases p4 _ hz with g | g
  ·exact h.nx.1 g
  ·omega
 ·rcases p4 _ hz with g | g
  ·exact h.nz b g hx
  ·have := lX2 b hx; omega
 ·show J3.blk b = _
  rw [p3.blk b (lX2 b hb) (x3 b hb), k2 b (by simp [hb])]
end
end Go.Abs.Tryz
set_option maxHeartbeats 4000000
namespace Go.Abs.Tryz
open Go Go.Abs
variable {O : Type}
def Hd.size (h : Hd) : Nat := 1 + h.p + h.r
theorem keepOf {X : List Nat} {J J' : AH O} (e : Ext J J') (hX : ∀ b ∈ X, b < J.next) : Keep X J J' := ⟨e.next, fun b hb => e.blk b (hX b hb)⟩
section
variable {f : Fn × List AV × List AV} {Tw : List Hd -> AH O -> List Nat -> Prop} (tl : Teller f Tw) {J : AH O} {eb sb nb lb pb mb : Nat} {M : MemS} {S : PoolS} {w : List Int} {L : LarS} {T : StoS} {X Z : List Nat} {Y : List Int} {oid : Int} {v : List Int} {ot : Nat} {hs : List Hd} (h : MovAt f Tw J eb sb nb lb pb mb M S w L T X Y oid v ot hs Z) (hf : M.far 100000)
include tl h hf
theorem small_old {at_ to : Nat} (ha : at_ < ot) (hat : at_ < 4194304) (ht : to < 4194304) (hw : v.getD at_ 0 = fwd to) : Ok (qp2 [.p (some (.n eb, 0)), .i .u64 (rsm at_)] J) fun r => r.1 = .i .u64 (rsm to) /\ ∃ M', MovAt f Tw r.2 eb sb nb lb pb mb M' S w L T X Y oid v ot hs Z /\ Beh Y M M' 1 0 0 /\ Tk M M' 1 /\ Keep X J r.2 := by
 have hb := h.b
 obtain ⟨el, hsb⟩ := h.t.s.s
 have a1 := at_sm J hat
 have z0 : ((0 : Int) == 0) = true := rfl
 simp (maxSteps := 2000000) -implicitDefEqProofs (disch := (first | omega | rfl | assumption | (simp only [rsD]; first | omega | assumption))) only [qp2, qp1, hb, qcp, qco, hsb, a1, Nat.reduceAdd, Nat.reduceMul, Nat.reduceLT, Int.reduceToNat, Int.reduceAdd, Int.reduceSub, Int.reduceMul, rsU, rsC]
 refine Ok.step (treadold_ok h.t (hf.less (by decide)) ha) fun r ⟨g1, M', g2, g3, g4, g5⟩ => ?_
 obtain ⟨q, J1⟩ := r
 simp only at g1 g2 g5
 subst g1
 rw [hw]
 simp (maxSteps := 2000000) -implicitDefEqProofs (disch := (first | omega | rfl | assumption | (simp only [rsD]; first | omega | assumption))) only [bne, z0, Bool.not_true, Nat.reduceAdd, Nat.reduceMul, Nat.reduceLT, Int.reduceToNat, Int.reduceAdd, Int.reduceSub, Int.reduceMul, rsU, rsC]
 refine Ok.step (forwarded_yes J1 ht) fun r ⟨k1, k2⟩ => ?_
 obtain ⟨q, J2⟩ := r
 simp only at k1 k2
 subst k1
 have ts := tosmall_ok J2 ht
 simp (maxSteps := 2000000) -implicitDefEqProofs (disch := (first | omega | rfl | assumption | (simp only [rsD]; first | omega | assumption))) only [ts, Nat.reduceAdd, Nat.reduceMul, Nat.reduceLT, Int.reduceToNat, Int.reduceAdd, Int.reduceSub, Int.reduceMul, rsU, rsC]
 have h1 := h.as tl g2 g5
 exact Ok_some.2 ⟨rfl, M', h1.ext tl k2, g3, g4, (g5.trans (keepOf k2 fun b hb => g2.s.lt b hb)).mono fun b hb => by simp [hb]⟩
theorem small_new {at_ : Nat} {hd : Hd} (k : hd.ok) (hw : v.getD at_ 0 = (hd.word : Int)) (ha : at_ + hd.size <= ot) (hr : T.top + hd.size <= T.ws.length) (hT : T.id ∉ Y) (hO : oid ∉ Y) (hn : hs.length < 1000) : Ok (qp2 [.p (some (.n eb, 0)), .i .u64 (rsm at_)] J) fun r => r.1 = .i .u64 (rsm T.top) /\ ∃ M' Z', MovAt f Tw r.2 eb sb nb lb pb mb M' S w L { T with ws := (movedW T.ws v T.top at_ hd.size).set T.top (hd.older.word : Int), top := T.top + hd.size } X Y oid (v.set at_ (fwd T.top)) ot (hs ++ [hd.older]) Z' /\ Beh Y M M' (2 * hd.size + 3) 0 0 /\ Tk M M' (2 * hd.size + 3) /\ Keep X J r.2 := by
 have hb := h.b
 obtain ⟨el, hsb⟩ := h.t.s.s
 have vl := h.t.vl
 have vt := h.t.top
 have wtl := h.t.s.tl
 have k1 := k.p
 have k2 := k.r
 have ks : hd.size = 1 + hd.p + hd.r := rfl
 have a1 := fun J : AH O => at_sm (at_ := at_) J (by omega)
 have z0 : ((0 : Int) == 0) = true := rfl
 simp (maxSteps := 2000000) -implicitDefEqProofs (disch := (first | omega | rfl | assumption | (simp only [rsD]; first | omega | assumption))) only [qp2, qp1, hb, qcp, qco, hsb, a1, Nat.reduceAdd, Nat.reduceMul, Nat.reduceLT, Int.reduceToNat, Int.reduceAdd, Int.reduceSub, Int.reduceMul, rsU, rsC]
 refine Ok.step (treadold_ok h.t (hf.less (by decide)) (by omega)) fun r ⟨g1, M1, g2, g3, g4, g5⟩ => ?_
 obtain ⟨q, J1⟩ := r
 simp only at g1 g2 g5
 subst g1
 rw [hw]
 have H1 := h.as tl g2 g5
 have f1 : M1.far 99000 := g3.far (hf.less (by decide))
 simp (maxSteps := 2000000) -implicitDefEqProofs (disch := (first | omega | rfl | assumption | (simp only [rsD]; first | omega | assumption))) only [bne, z0, Bool.not_true, Nat.reduceAdd, Nat.reduceMul, Nat.reduceLT, Int.reduceToNat, Int.reduceAdd, Int.reduceSub, Int.reduceMul, rsU, rsC]
 refine Ok.step (forwarded_no J1 (w := hd.word) (by have := k.w; omega)) fun r ⟨p1, p2⟩ => ?_
 obtain ⟨q, J2⟩ := r
 simp only at p1 p2
 subst p1
 simp (maxSteps := 2000000) -implicitDefEqProofs (disch := (first | omega | rfl | assumption | (simp only [rsD]; first | omega | assumption))) only [Nat.reduceAdd, Nat.reduceMul, Nat.reduceLT, Int.reduceToNat, Int.reduceAdd, Int.reduceSub, Int.reduceMul, rsU, rsC]
 refine Ok.step (unpack_hd _ k) fun r ⟨p3, p4⟩ => ?_
 obtain ⟨q, J3⟩ := r
 simp only at p3 p4
 subst p3
 have n3 := p4.next
 simp only [rsD] at n3
 simp only [Hd.av]
 simp (maxSteps := 2000000) -implicitDefEqProofs (disch := (first | omega | rfl | assumption | (simp only [rsD]; first | omega | assumption))) only [z0, Bool.not_true, a1, s_chkT, Nat.reduceAdd, Nat.reduceMul, Nat.reduceLT, Int.reduceToNat, Int.reduceAdd, Int.reduceSub, Int.reduceMul, rsU, rsC]
 generalize hJ4 : AH.put J3 J2.next _ = J4
 have E2 : Ext J2 J4 := by rw [<- hJ4]; exact (ext_of (by (have x0 := (p4).next); (try simp only [rsD] at *); omega) (fun b hb => by (have x0 := (p4).next); (try simp only [rsD] at *); simp -implicitDefEqProofs (disch := (first | omega | rfl | assumption | (simp only [rsD]; first | omega | assumption))) only [s_bn, s_kn, bump_blk, s_ext (p4)]))
 clear hJ4
 have H4 := (H1.ext tl p2).ext tl E2
 have E12 := p2.trans E2
 refine Ok.step (hwords_ok J4 (p := (hd.p : Int)) (r := (hd.r : Int)) (by omega) (by omega)) fun r ⟨p5, p6⟩ => ?_
 obtain ⟨q, J5⟩ := r
 simp only at p5 p6
 rw [show (1 : Int) + (hd.p : Int) + (hd.r : Int) = ((hd.size : Nat) : Int) by omega] at p5
 subst p5
 have H5 := H4.ext tl p6
 simp (maxSteps := 2000000) -implicitDefEqProofs (disch := (first | omega | rfl | assumption | (simp only [rsD]; first | omega | assumption))) only [Nat.reduceAdd, Nat.reduceMul, Nat.reduceLT, Int.reduceToNat, Int.reduceAdd, Int.reduceSub, Int.reduceMul, rsU, rsC]
 refine Ok.step (tmove_ok H5.t (f1.less (by decide)) (at_ := at_) (n := hd.size) (by omega) ha hr hT) fun r ⟨m1, M2, m2, m3, m4, m5⟩ => ?_
 obtain ⟨q, J6⟩ := r
 simp only at m1 m2 m5
 subst m1
 have H6 := H5.as tl m2 m5
 have f2 : M2.far 80000 := m3.far (f1.less (by omega))
 simp (maxSteps := 2000000) -implicitDefEqProofs (disch := (first | omega | rfl | assumption | (simp only [rsD]; first | omega | assumption))) only [z0, Bool.not_true, Nat.reduceAdd, Nat.reduceMul, Nat.reduceLT, Int.reduceToNat, Int.reduceAdd, Int.reduceSub, Int.reduceMul, rsU, rsC]
 refine Ok.step (older_ok J6 k) fun r ⟨o1, o2⟩ => ?_
 obtain ⟨q, J7⟩ := r
 simp only at o1 o2
 subst o1
 have H7 := H6.ext tl o2
 simp (maxSteps := 2000000) -implicitDefEqProofs (disch := (first | omega | rfl | assumption | (simp only [rsD]; first | omega | assumption))) only [Nat.reduceAdd, Nat.reduceMul, Nat.reduceLT, Int.reduceToNat, Int.reduceAdd, Int.reduceSub, Int.reduceMul, rsU, rsC]
 refine Ok.step (swrite_ok H7.t.s (f2.less (by decide)) (at_ := (T.top : Int)) (x := (hd.older.word : Int)) (by show 0 <= (T.top : Int) /\ (T.top : Int) < ((T.top + hd.size : Nat) : Int); omega)) fun r ⟨w1, M3, w2, w3, w4, w5⟩ => ?_
 obtain ⟨q, J8⟩ := r
 simp only at w1 w2 w5
 subst w1
 rw [Int.toNat_natCast] at w2
 have H8 := H7.as tl ⟨w2, H7.t.old, (w3.keep oid (by simp)).trans H7.t.w, H7.t.top⟩ w5
 have f3 : M3.far 79000 := w3.far (f2.less (by decide))
 have fo := fun J : AH O => forward_ok J (at_ := T.top) (by omega)
 simp (maxSteps := 2000000) -implicitDefEqProofs (disch := (first | omega | rfl | assumption | (simp only [rsD]; first | omega | assumption))) only [fo, a1, Nat.reduceAdd, Nat.reduceMul, Nat.reduceLT, Int.reduceToNat, Int.reduceAdd, Int.reduceSub, Int.reduceMul, rsU, rsC]
 refine Ok.step (twriteold_ok H8.t (f3.less (by decide)) (at_ := at_) (x := fwd T.top) (by omega) hO) fun r ⟨x1, M4, x2, x3, x4, x5⟩ => ?_
 obtain ⟨q, J9⟩ := r
 simp only at x1 x2 x5
 subst x1
 have H9 := H8.as tl x2 x5
 simp (maxSteps := 2000000) -implicitDefEqProofs (disch := (first | omega | rfl | assumption | (simp only [rsD]; first | omega | assumption))) only [Nat.reduceAdd, Nat.reduceMul, Nat.reduceLT, Int.reduceToNat, Int.reduceAdd, Int.reduceSub, Int.reduceMul, rsU, rsC]
 refine Ok.step (tell_ok tl H9 k.older hn) fun r ⟨y1, Z', y2, y3⟩ => ?_
 obtain ⟨q, J10⟩ := r
 simp only at y1 y2 y3
 subst y1
 have ts := tosmall_ok J10 (at_ := T.top) (by omega)
 simp (maxSteps := 2000000) -implicitDefEqProofs (disch := (first | omega | rfl | assumption | (simp only [rsD]; first | omega | assumption))) only [ts, Nat.reduceAdd, Nat.reduceMul, Nat.reduceLT, Int.reduceToNat, Int.reduceAdd, Int.reduceSub, Int.reduceMul, rsU, rsC]
 have K : Keep X J J10 := by
  have lt1 : ∀ b ∈ X, b < J1.next := fun b hb => H1.t.s.lt b (by simp [hb])
  have lt4 : ∀ b ∈ X, b < J4.next := fun b hb => H4.t.s.lt b (by simp [hb])
  have lt6 : ∀ b ∈ X, b < J6.next := fun b hb => H6.t.s.lt b (by simp [hb])
  have sub : ∀ b ∈ X, b ∈ eb :: (Z ++ X) := fun b hb => by simp [hb]
  exact (((((((g5.mono sub).trans (keepOf E12 lt1)).trans (keepOf p6 lt4)).trans (m5.mono sub)).trans (keepOf o2 lt6)).trans (w5.mono sub)).trans (x5.mono sub)).trans y3
 refine Ok_some.2 ⟨rfl, M4, Z', y2, ((((g3.trans m3).trans (w3.mono fun y hy => by simp [hy])).trans x3)).as (by omega) (by omega) (by omega), (((g4.trans m4).trans (show Tk M2 M3 1 from w4)).trans x4).as (by omega), K⟩
end
end Go.Abs.Tryz
namespace Go.Abs.Tryz
open Go Go.Abs
variable {O : Type}
def LarS.met (L : LarS) (i : Nat) (ws : List Int) (x : Int) : LarS := { L with H := L.H ++ [i], W := L.W.filter (fun j => j != i), ob := fun j => if j = i then some (ws.set 0 x) else L.ob j }
section
variable {J : AH O} {sb nb lb pb mb : Nat} {M : MemS} {S : PoolS} {w : List Int} {L : LarS} {T : StoS} {X : List Nat} {Y : List Int} {oid : Int} {v : List Int} {ot : Nat} (h : Turns J sb nb lb pb mb M S w L T X Y oid v ot)
include h
theorem Turns.larged {J' : AH O} {M' : MemS} {S' : PoolS} {w' : List Int} {L' : LarS} {k a c : Int} (l : LarAt J' lb pb mb M' S' w' L' (nb :: sb :: X) (T.id :: oid :: Y)) (b : Beh (T.id :: oid :: Y) M M' k a c) (kp : Keep (nb :: sb :: X) J J') : Turns J' sb nb lb pb mb M' S' w' L' T X Y oid v ot :=
 ⟨h.s.larged l b kp, h.old, (b.keep oid (by simp)).trans h.w, h.top⟩
end
section
variable {f : Fn × List AV × List AV} {Tw : List Hd -> AH O -> List Nat -> Prop} (tl : Teller f Tw) {J : AH O} {eb sb nb lb pb mb : Nat} {M : MemS} {S : PoolS} {w : List Int} {L : LarS} {T : StoS} {X Z : List Nat} {Y : List Int} {oid : Int} {v : List Int} {ot : Nat} {hs : List Hd} (h : MovAt f Tw J eb sb nb lb pb mb M S w L T X Y oid v ot hs Z) (hf : M.far 100000)
include tl h hf
theorem large_old {i : Nat} (hi : i ∈ L.H) (hil : i < 1048576) : Ok (qqr [.p (some (.n eb, 0)), .i .u64 (rlg i)] J) fun r => r.1 = .tup [] /\ ∃ M', MovAt f Tw r.2 eb sb nb lb pb mb M' S w L T X Y oid v ot hs Z /\ Beh Y M M' 2 0 0 /\ Keep X J r.2 := by
 have hb := h.b
 obtain ⟨el, hsb⟩ := h.t.s.s
 have a1 := fun J : AH O => at_lg (i := i) J hil
 simp (maxSteps := 2000000) -implicitDefEqProofs (disch := (first | omega | rfl | assumption | (simp only [rsD]; first | omega | assumption))) only [qqr, qqq, hb, qcu, qct, hsb, a1, Nat.reduceAdd, Nat.reduceMul, Nat.reduceLT, Int.reduceToNat, Int.reduceAdd, Int.reduceSub, Int.reduceMul, rsU, rsC]
 refine Ok.step (lmark_old h.t.s.l (hf.less (by decide)) hi) fun r ⟨g1, M1, g2, g3, g4⟩ => ?_
 obtain ⟨q, J1⟩ := r
 simp only at g1 g2 g4
 subst g1
 simp (maxSteps := 2000000) -implicitDefEqProofs (disch := (first | omega | rfl | assumption | (simp only [rsD]; first | omega | assumption))) only [Bool.not_false, Nat.reduceAdd, Nat.reduceMul, Nat.reduceLT, Int.reduceToNat, Int.reduceAdd, Int.reduceSub, Int.reduceMul, rsU, rsC]
 have t1 := h.t.larged g2 g3 g4
 exact Ok_some.2 ⟨rfl, M1, h.as tl t1 (g4.mono fun b hb => List.mem_cons_of_mem _ (List.mem_cons_of_mem _ hb)), g3.mono fun y hy => by simp [hy], g4.mono fun b hb => by simp [hb]⟩
theorem large_new {i : Nat} {ws : List Int} {hd : Hd} (ho : L.ob i = some ws) (hi : i ∉ L.H) (k : hd.ok) (hl : 0 < ws.length) (hw : ws.getD 0 0 = (hd.word : Int)) (hn : hs.length < 1000) : Ok (qqr [.p (some (.n eb, 0)), .i .u64 (rlg i)] J) fun r => r.1 = .tup [] /\ ∃ M' S' w' Z', MovAt f Tw r.2 eb sb nb lb pb mb M' S' w' (L.met i ws (hd.older.word : Int)) T X Y oid v ot (hs ++ [hd.older]) Z' /\ Alike S S' /\ Beh Y M M' 18 0 0 /\ Keep X J r.2 := by
 have hb := h.b
 obtain ⟨el, hsb⟩ := h.t.s.s
 have a1 := fun J : AH O => at_lg (i := i) J (h.t.s.oblt ho)
 have z0 : ((0 : Int) == 0) = true := rfl
 simp (maxSteps := 2000000) -implicitDefEqProofs (disch := (first | omega | rfl | assumption | (simp only [rsD]; first | omega | assumption))) only [qqr, qqq, hb, qcu, qct, hsb, a1, Nat.reduceAdd, Nat.reduceMul, Nat.reduceLT, Int.reduceToNat, Int.reduceAdd, Int.reduceSub, Int.reduceMul, rsU, rsC]
 refine Ok.step (lmark_ok h.t.s.l (hf.less (by decide)) ho hi) fun r ⟨g1, M1, S1, w1, g2, ga, g3, g4⟩ => ?_
 obtain ⟨q, J1⟩ := r
 simp only at g1 g2 g4
 subst g1
 have t1 := h.t.larged g2 g3 g4
 have f1 : M1.far 99000 := g3.far (hf.less (by decide))
 simp (maxSteps := 2000000) -implicitDefEqProofs (disch := (first | omega | rfl | assumption | (simp only [rsD]; first | omega | assumption))) only [Bool.not_true, a1, Nat.reduceAdd, Nat.reduceMul, Nat.reduceLT, Int.reduceToNat, Int.reduceAdd, Int.reduceSub, Int.reduceMul, rsU, rsC]
 refine Ok.step (lread_in t1.s.l (f1.less (by decide)) (i := i) (ws := ws) ho (at_ := 0) (by omega)) fun r ⟨k1, M2, k2, k3, k4, k5⟩ => ?_
 obtain ⟨q, J2⟩ := r
 simp only at k1 k2 k5
 rw [show (0 : Int).toNat = 0 from rfl, hw] at k1
 subst k1
 have t2 := t1.larged k2 k3 k5
 have f2 : M2.far 98000 := k3.far (f1.less (by decide))
 simp (maxSteps := 2000000) -implicitDefEqProofs (disch := (first | omega | rfl | assumption | (simp only [rsD]; first | omega | assumption))) only [Nat.reduceAdd, Nat.reduceMul, Nat.reduceLT, Int.reduceToNat, Int.reduceAdd, Int.reduceSub, Int.reduceMul, rsU, rsC]
 refine Ok.step (older_ok J2 k) fun r ⟨o1, o2⟩ => ?_
 obtain ⟨q, J3⟩ := r
 simp only at o1 o2
 subst o1
 have t3 := t2.ext o2
 simp (maxSteps := 2000000) -implicitDefEqProofs (disch := (first | omega | rfl | assumption | (simp only [rsD]; first | omega | assumption))) only [bne, z0, Bool.not_true, a1, Nat.reduceAdd, Nat.reduceMul, Nat.reduceLT, Int.reduceToNat, Int.reduceAdd, Int.reduceSub, Int.reduceMul, rsU, rsC]
 refine Ok.step (lwrite_in t3.s.l (f2.less (by decide)) (i := i) (ws := ws) ho (at_ := 0) (x := (hd.older.word : Int)) (by omega)) fun r ⟨j1, M3, j2, j3, j4, j5⟩ => ?_
 obtain ⟨q, J4⟩ := r
 simp only at j1 j2 j5
 subst j1
 have t4 := t3.larged j2 j3 j5
 simp (maxSteps := 2000000) -implicitDefEqProofs (disch := (first | omega | rfl | assumption | (simp only [rsD]; first | omega | assumption))) only [Nat.reduceAdd, Nat.reduceMul, Nat.reduceLT, Int.reduceToNat, Int.reduceAdd, Int.reduceSub, Int.reduceMul, rsU, rsC]
 have K4 : Keep (nb :: sb :: eb :: (Z ++ X)) J J4 := ((g4.trans k5).trans (keepOf o2 fun b hb => t2.s.l.lX b hb)).trans j5
 have H4 := h.as tl t4 (K4.mono fun b hb => List.mem_cons_of_mem _ (List.mem_cons_of_mem _ hb))
 refine Ok.step (tell_ok tl H4 k.older hn) fun r ⟨y1, Z', y2, y3⟩ => ?_
 obtain ⟨q, J5⟩ := r
 simp only at y1 y2 y3
 subst y1
 simp (maxSteps := 2000000) -implicitDefEqProofs (disch := (first | omega | rfl | assumption | (simp only [rsD]; first | omega | assumption))) only [Nat.reduceAdd, Nat.reduceMul, Nat.reduceLT, Int.reduceToNat, Int.reduceAdd, Int.reduceSub, Int.reduceMul, rsU, rsC]
 exact Ok_some.2 ⟨rfl, M3, S1, w1, Z', y2, ga, (((g3.trans k3).trans j3).mono fun y hy => by simp [hy]).as (by omega) (by omega) (by omega), (K4.mono fun b hb => by simp [hb]).trans y3⟩
end
end Go.Abs.Tryz
namespace Go.Abs.Tryz
open Go Go.Abs
variable {O : Type}
def LarS.fresh (L : LarS) : LarS := { L with H := [], W := L.W ++ L.H, ep := L.ep + 1, last := 0 }
def StoS.flip (T : StoS) (i : Nat) : StoS := ⟨(i : Int), List.replicate T.top 0, 0, [.i .i64 T.id, .i .i64 (T.top : Int), .b true], T.small⟩
theorem enewF_ok (J : AH O) (sb : Nat) (f : Fn × List AV × List AV) : Ok (qnk [.p (some (.n sb, 0)), .fn (some f)] J) fun r => r.1 = .p (some (.n J.next, 0)) /\ r.2.blk J.next = some (.cells true T_evac_Mover [.p (some (.n sb, 0)), .fn (some f), .i .i64 (([] : List Hd).length : Int)]) /\ r.2.next = J.next + 1 /\ Ext J r.2 := by
 simp (maxSteps := 2000000) -implicitDefEqProofs (disch := (first | omega | rfl | assumption | (simp only [rsD]; first | omega | assumption))) only [qnk, qnj, Option.isNone_some, Nat.reduceAdd, Nat.reduceMul, Nat.reduceLT, Int.reduceToNat, Int.reduceAdd, Int.reduceSub, Int.reduceMul, rsU, rsC]
 exact Ok_some.2 ⟨rfl, s_bs, rfl, (ext_of (by simp only [put_next, bump_next, kill_next]; omega) (fun b hb => by simp -implicitDefEqProofs (disch := (first | omega | rfl | assumption | (simp only [rsD]; first | omega | assumption))) only [s_bn, s_kn, bump_blk, s_ext]))⟩
theorem begin_ok {f : Fn × List AV × List AV} {Tw : List Hd -> AH O -> List Nat -> Prop} (tl : Teller f Tw) {J : AH O} {eb sb nb lb pb mb : Nat} {M : MemS} {S : PoolS} {w : List Int} {L : LarS} {T : StoS} {X Z : List Nat} {Y : List Int} {hs : List Hd} (h : StoAt J sb nb lb pb mb M S w L T (eb :: (Z ++ X)) Y) (hb : J.blk eb = some (.cells true T_evac_Mover [.p (some (.n sb, 0)), .fn (some f), .i .i64 (hs.length : Int)])) (nx : eb ∉ Z /\ eb ∉ X) (nz : ∀ b ∈ Z, b ∉ X) (hj : Tw hs J Z) (hf : M.far 100000) (hcnt : M.count < 262144) {a b : Int} (hold : T.old = [.i .i64 a, .i .i64 b, .b false]) (hep : L.ep + 1 < 4611686018427387904) :
  Ok (qoe [.p (some (.n eb, 0))] J) fun r => r.1 = .i .i64 0 /\ ∃ M' S' w', MovAt f Tw r.2 eb sb nb lb pb mb M' S' w' L.fresh (T.flip (ff M.sp)) X Y T.id T.ws T.top hs Z /\ Alike S S' /\ Beh Y M M' 2 T.top 1 /\ Keep X J r.2 := by
 obtain ⟨el, hsb⟩ := h.s
 obtain ⟨el2, hnb⟩ := h.n
 simp only [StoS.near] at hnb
 have z0 : ((0 : Int) == 0) = true := rfl
 simp (maxSteps := 2000000) -implicitDefEqProofs (disch := (first | omega | rfl | assumption | (simp only [rsD]; first | omega | assumption))) only [qoe, qod, hb, qcp, qco, hsb, qnu, qnt, hnb, Nat.reduceAdd, Nat.reduceMul, Nat.reduceLT, Int.reduceToNat, Int.reduceAdd, Int.reduceSub, Int.reduceMul, rsU, rsC]
 refine Ok.step (sflip_turns h (hf.less (by decide)) hcnt hold) fun r ⟨g1, M1, g2, g3, g4, g5⟩ => ?_
 obtain ⟨q, J1⟩ := r
 simp only at g1 g2 g5
 subst g1
 have f1 : M1.far 99000 := g3.far (hf.less (by decide))
 have hb1 := (g5.blk eb (by simp)).trans hb
 obtain ⟨el3, hsb1⟩ := g2.s.s
 simp (maxSteps := 2000000) -implicitDefEqProofs (disch := (first | omega | rfl | assumption | (simp only [rsD]; first | omega | assumption))) only [bne, z0, Bool.not_true, hb1, qcu, qct, hsb1, Nat.reduceAdd, Nat.reduceMul, Nat.reduceLT, Int.reduceToNat, Int.reduceAdd, Int.reduceSub, Int.reduceMul, rsU, rsC]
 refine Ok.step (lbegin_ok g2.s.l (f1.less (by decide)) hep) fun r ⟨k1, M2, S2, w2, k2, ka, k3, k4⟩ => ?_
 obtain ⟨q, J2⟩ := r
 simp only at k1 k2 k4
 subst k1
 simp (maxSteps := 2000000) -implicitDefEqProofs (disch := (first | omega | rfl | assumption | (simp only [rsD]; first | omega | assumption))) only [Nat.reduceAdd, Nat.reduceMul, Nat.reduceLT, Int.reduceToNat, Int.reduceAdd, Int.reduceSub, Int.reduceMul, rsU, rsC]
 have t2 := g2.larged k2 k3 k4
 refine Ok_some.2 ⟨rfl, M2, S2, w2, ⟨t2, (k4.blk eb (by simp)).trans hb1, nx, nz, tl.keep hj ((g5.mono fun b hb => by simp [hb]).trans (k4.mono fun b hb => by simp [hb]))⟩, ka, (g3.trans (k3.mono fun y hy => by simp [hy])).as (by omega) (by omega) (by omega), (g5.mono fun b hb => by simp [hb]).trans (k4.mono fun b hb => by simp [hb])⟩
theorem begin_no {f : Fn × List AV × List AV} {Tw : List Hd -> AH O -> List Nat -> Prop} {J : AH O} {eb sb nb lb pb mb : Nat} {M : MemS} {S : PoolS} {w : List Int} {L : LarS} {T : StoS} {X Z : List Nat} {Y : List Int} {oid : Int} {v : List Int} {ot : Nat} {hs : List Hd} (h : MovAt f Tw J eb sb nb lb pb mb M S w L T X Y oid v ot hs Z) :
  qoe [.p (some (.n eb, 0))] J = some (.i .i64 1, J) := by
 obtain ⟨el, hsb⟩ := h.t.s.s
 obtain ⟨el2, hnb⟩ := h.t.n
 have hb := h.b
 simp (maxSteps := 2000000) -implicitDefEqProofs (disch := (first | omega | rfl | assumption | (simp only [rsD]; first | omega | assumption))) only [qoe, qod, hb, qcp, qco, hsb, qnu, qnt, hnb, qnz, qny, Nat.reduceAdd, Nat.reduceMul, Nat.reduceLT, Int.reduceToNat, Int.reduceAdd, Int.reduceSub, Int.reduceMul, rsU, rsC]
section
variable {f : Fn × List AV × List AV} {Tw : List Hd -> AH O -> List Nat -> Prop} (tl : Teller f Tw) {J : AH O} {eb sb nb lb pb mb : Nat} {M : MemS} {S : PoolS} {w : List Int} {L : LarS} {T : StoS} {X Z : List Nat} {Y : List Int} {oid : Int} {v : List Int} {ot : Nat} {hs : List Hd} (h : MovAt f Tw J eb sb nb lb pb mb M S w L T X Y oid v ot hs Z) (hf : M.far 100000)
include tl h hf
theorem move_old {at_ to : Nat} (ha : at_ < ot) (hat : at_ < 4194304) (ht : to < 4194304) (hw : v.getD at_ 0 = fwd to) : Ok (qqw [.p (some (.n eb, 0)), .i .u64 (rsm at_)] J) fun r => r.1 = .i .u64 (rsm to) /\ ∃ M', MovAt f Tw r.2 eb sb nb lb pb mb M' S w L T X Y oid v ot hs Z /\ Beh Y M M' 1 0 0 /\ Tk M M' 1 /\ Keep X J r.2 := by
 have a1 := kind_sm J hat
 have z1 : ((1 : Int) == 1) = true := rfl
 simp (maxSteps := 2000000) -implicitDefEqProofs (disch := (first | omega | rfl | assumption | (simp only [rsD]; first | omega | assumption))) only [qqw, qqv, a1, z1, Nat.reduceAdd, Nat.reduceMul, Nat.reduceLT, Int.reduceToNat, Int.reduceAdd, Int.reduceSub, Int.reduceMul, rsU, rsC]
 refine Ok.step (small_old tl h hf ha hat ht hw) fun r ⟨g1, g2⟩ => ?_
 obtain ⟨q, J1⟩ := r
 simp only at g1 g2
 subst g1
 simp (maxSteps := 2000000) -implicitDefEqProofs (disch := (first | omega | rfl | assumption | (simp only [rsD]; first | omega | assumption))) only [Nat.reduceAdd, Nat.reduceMul, Nat.reduceLT, Int.reduceToNat, Int.reduceAdd, Int.reduceSub, Int.reduceMul, rsU, rsC]
 exact Ok_some.2 ⟨rfl, g2⟩
theorem move_new {at_ : Nat} {hd : Hd} (k : hd.ok) (hw : v.getD at_ 0 = (hd.word : Int)) (ha : at_ + hd.size <= ot) (hr : T.top + hd.size <= T.ws.length) (hT : T.id ∉ Y) (hO : oid ∉ Y) (hn : hs.length < 1000) : Ok (qqw [.p (some (.n eb, 0)), .i .u64 (rsm at_)] J) fun r => r.1 = .i .u64 (rsm T.top) /\ ∃ M' Z', MovAt f Tw r.2 eb sb nb lb pb mb M' S w L { T with ws := (movedW T.ws v T.top at_ hd.size).set T.top (hd.older.word : Int), top := T.top + hd.size } X Y oid (v.set at_ (fwd T.top)) ot (hs ++ [hd.older]) Z' /\ Beh Y M M' (2 * hd.size + 3) 0 0 /\ Tk M M' (2 * hd.size + 3) /\ Keep X J r.2 := by
 have vl := h.t.vl
 have vt := h.t.top
 have ks : hd.size = 1 + hd.p + hd.r := rfl
 have a1 := kind_sm (at_ := at_) J (by omega)
 have z1 : ((1 : Int) == 1) = true := rfl
 simp (maxSteps := 2000000) -implicitDefEqProofs (disch := (first | omega | rfl | assumption | (simp only [rsD]; first | omega | assumption))) only [qqw, qqv, a1, z1, Nat.reduceAdd, Nat.reduceMul, Nat.reduceLT, Int.reduceToNat, Int.reduceAdd, Int.reduceSub, Int.reduceMul, rsU, rsC]
 refine Ok.step (small_new tl h hf k hw ha hr hT hO hn) fun r ⟨g1, g2⟩ => ?_
 obtain ⟨q, J1⟩ := r
 simp only at g1 g2
 subst g1
 simp (maxSteps := 2000000) -implicitDefEqProofs (disch := (first | omega | rfl | assumption | (simp only [rsD]; first | omega | assumption))) only [Nat.reduceAdd, Nat.reduceMul, Nat.reduceLT, Int.reduceToNat, Int.reduceAdd, Int.reduceSub, Int.reduceMul, rsU, rsC]
 exact Ok_some.2 ⟨rfl, g2⟩
theorem move_far_old {i : Nat} (hi : i ∈ L.H) (hil : i < 1048576) : Ok (qqw [.p (some (.n eb, 0)), .i .u64 (rlg i)] J) fun r => r.1 = .i .u64 (rlg i) /\ ∃ M', MovAt f Tw r.2 eb sb nb lb pb mb M' S w L T X Y oid v ot hs Z /\ Beh Y M M' 2 0 0 /\ Keep X J r.2 := by
 have a1 := kind_lg J hil
 have z1 : ((2 : Int) == 1) = false := rfl
 have z2 : ((2 : Int) == 2) = true := rfl
 simp (maxSteps := 2000000) -implicitDefEqProofs (disch := (first | omega | rfl | assumption | (simp only [rsD]; first | omega | assumption))) only [qqw, qqv, a1, z1, z2, Nat.reduceAdd, Nat.reduceMul, Nat.reduceLT, Int.reduceToNat, Int.reduceAdd, Int.reduceSub, Int.reduceMul, rsU, rsC]
 refine Ok.step (large_old tl h hf hi hil) fun r ⟨g1, g2⟩ => ?_
 obtain ⟨q, J1⟩ := r
 simp only at g1 g2
 subst g1
 simp (maxSteps := 2000000) -implicitDefEqProofs (disch := (first | omega | rfl | assumption | (simp only [rsD]; first | omega | assumption))) only [Nat.reduceAdd, Nat.reduceMul, Nat.reduceLT, Int.reduceToNat, Int.reduceAdd, Int.reduceSub, Int.reduceMul, rsU, rsC]
 exact Ok_some.2 ⟨rfl, g2⟩
theorem move_far_new {i : Nat} {ws : List Int} {hd : Hd} (ho : L.ob i = some ws) (hi : i ∉ L.H) (k : hd.ok) (hl : 0 < ws.length) (hw : ws.getD 0 0 = (hd.word : Int)) (hn : hs.length < 1000) : Ok (qqw [.p (some (.n eb, 0)), .i .u64 (rlg i)] J) fun r => r.1 = .i .u64 (rlg i) /\ ∃ M' S' w' Z', MovAt f Tw r.2 eb sb nb lb pb mb M' S' w' (L.met i ws (hd.older.word : Int)) T X Y oid v ot (hs ++ [hd.older]) Z' /\ Alike S S' /\ Beh Y M M' 18 0 0 /\ Keep X J r.2 := by
 have a1 := kind_lg J (h.t.s.oblt ho)
 have z1 : ((2 : Int) == 1) = false := rfl
 have z2 : ((2 : Int) == 2) = true := rfl
 simp (maxSteps := 2000000) -implicitDefEqProofs (disch := (first | omega | rfl | assumption | (simp only [rsD]; first | omega | assumption))) only [qqw, qqv, a1, z1, z2, Nat.reduceAdd, Nat.reduceMul, Nat.reduceLT, Int.reduceToNat, Int.reduceAdd, Int.reduceSub, Int.reduceMul, rsU, rsC]
 refine Ok.step (large_new tl h hf ho hi k hl hw hn) fun r ⟨g1, g2⟩ => ?_
 obtain ⟨q, J1⟩ := r
 simp only at g1 g2
 subst g1
 simp (maxSteps := 2000000) -implicitDefEqProofs (disch := (first | omega | rfl | assumption | (simp only [rsD]; first | omega | assumption))) only [Nat.reduceAdd, Nat.reduceMul, Nat.reduceLT, Int.reduceToNat, Int.reduceAdd, Int.reduceSub, Int.reduceMul, rsU, rsC]
 exact Ok_some.2 ⟨rfl, g2⟩
end
end Go.Abs.Tryz
set_option maxRecDepth 100000
namespace Go.Abs.Tryz
open Go Go.Abs Go.Proofs
variable {O : Type}
end Go.Abs.Tryz
set_option maxHeartbeats 1000000
namespace Go.Abs.Tryz
open Go Go.Abs
variable {O : Type}
structure DO where
 h : Hd
 P : List Int
 R : List Int
 at_ : Nat
def DO.n (d : DO) : Nat := 1 + d.P.length + d.R.length
def DO.ws (d : DO) : List Int := (d.h.word : Int) :: (d.P ++ d.R)
def DO.to (d : DO) (t : Nat) : Int := if d.h.l then rlg t else rsm t
def DO.ref (d : DO) : Int := d.to d.at_
def DO.ob (d : DO) : Ob := ⟨d.h.l, d.at_, d.n⟩
def DO.older (d : DO) : DO := { d with h := d.h.older }
theorem DO.wsn (d : DO) : d.ws.length = d.n := by simp [DO.ws, DO.n]; omega
structure DO.ok (d : DO) : Prop where
 h : d.h.ok
 p : d.h.p = d.P.length
 r : d.h.r = d.R.length
theorem DO.ok.size {d : DO} (h : d.ok) : d.h.size = d.n := by unfold Hd.size DO.n; rw [h.p, h.r]
theorem DO.olderws (d : DO) : d.older.ws = d.ws.set 0 (d.h.older.word : Int) := rfl
theorem DO.ok.older {d : DO} (h : d.ok) : d.older.ok := ⟨h.h.older, h.p, h.r⟩
def sumTo (g : Nat -> Nat) : Nat -> Nat
 | 0 => 0
 | n + 1 => sumTo g n + g n
theorem sumTo_congr {g g' : Nat -> Nat} : ∀ {n : Nat}, (∀ j, j < n -> g' j = g j) -> sumTo g' n = sumTo g n
 | 0, _ => rfl
 | n + 1, h => by simp only [sumTo]; rw [sumTo_congr fun j hj => h j (by omega), h n (by omega)]
theorem sumTo_le {g g' : Nat -> Nat} : ∀ {n : Nat}, (∀ j, j < n -> g' j <= g j) -> sumTo g' n <= sumTo g n
 | 0, _ => Nat.le_refl _
 | n + 1, h => by
  simp only [sumTo]
  have := sumTo_le (n := n) fun j hj => h j (by omega)
  have := h n (by omega)
  omega
theorem sumTo_upd {g g' : Nat -> Nat} {i : Nat} (ho : ∀ j, j ≠ i -> g' j = g j) : ∀ {n : Nat}, i < n -> sumTo g' n + g i = sumTo g n + g' i
 | 0, h => by omega
 | n + 1, h => by
  simp only [sumTo]
  by_cases c : i = n
  ·subst c
   rw [sumTo_congr fun j hj => ho j (by omega)]; omega
  ·have := sumTo_upd ho (n := n) (by omega)
   have := ho n (by omega)
   omega
def smN (Ds : List DO) (i : Nat) : Nat := match Ds[i]? with | some d => if d.h.l then 0 else d.n | none => 0
def usN (Ds : List DO) (now : Nat -> Option Nat) (i : Nat) : Nat := if (now i).isSome then smN Ds i else 0
def upN (now : Nat -> Option Nat) (i t : Nat) : Nat -> Option Nat := fun j => if j = i then some t else now j
theorem movedW_get {ws v : List Int} {top at_ n : Nat} (h1 : at_ + n <= v.length) (h2 : top + n <= ws.length) (j : Nat) : (movedW ws v top at_ n).getD j 0 = if top <= j /\ j < top + n then v.getD (at_ + (j - top)) 0 else ws.getD j 0 := by
 have hl : ((v.drop at_).take n).length = n := by simp; omega
 unfold movedW patched
 simp only [List.getD_eq_getElem?_getD]
 rw [hl]
 by_cases c : top <= j /\ j < top + n
 ·rw [if_pos c, List.getElem?_append_left (by simp; omega), List.getElem?_append_right (by simp; omega), List.getElem?_take_of_lt (by simp; omega), List.getElem?_drop]
  congr 2
  simp
  omega
 ·rw [if_neg c]
  by_cases c2 : j < top
  ·rw [List.append_assoc, List.getElem?_append_left (by simp; omega), List.getElem?_take_of_lt c2]
  ·rw [List.getElem?_append_right (by simp; omega), List.getElem?_drop]
   congr 2
   simp
   omega
theorem getD_set_ne {l : List Int} {i j : Nat} {x : Int} (h : i ≠ j) : (l.set i x).getD j 0 = l.getD j 0 := by
 simp only [List.getD_eq_getElem?_getD]; rw [List.getElem?_set_ne h]
theorem getD_set_eq {l : List Int} {i : Nat} {x : Int} (h : i < l.length) : (l.set i x).getD i 0 = x := by
 simp only [List.getD_eq_getElem?_getD]; rw [List.getElem?_set_self h]; rfl
structure EV (Ds : List DO) (now : Nat -> Option Nat) (L : LarS) (T : StoS) (v : List Int) (ot : Nat) : Prop where
 ok : ∀ d ∈ Ds, d.ok
 sm : ∀ d ∈ Ds, d.h.l = false -> d.at_ + d.n <= ot
 ap : ∀ (i j : Nat) (a b : DO), i < j -> Ds[i]? = some a -> Ds[j]? = some b -> a.h.l = b.h.l -> if a.h.l then a.at_ ≠ b.at_ else a.at_ + a.n <= b.at_
 vl : ot <= v.length
 top : T.top = sumTo (usN Ds now) Ds.length
 tot : ot = sumTo (smN Ds) Ds.length
 wl : T.ws.length = ot
 s0 : ∀ i d, Ds[i]? = some d -> d.h.l = false -> now i = none -> ∀ k, k < d.n -> v.getD (d.at_ + k) 0 = d.ws.getD k 0
 s1 : ∀ i d t, Ds[i]? = some d -> d.h.l = false -> now i = some t -> v.getD d.at_ 0 = fwd t /\ t + d.n <= T.top /\ ∀ k, k < d.n -> T.ws.getD (t + k) 0 = d.older.ws.getD k 0
 l0 : ∀ i d, Ds[i]? = some d -> d.h.l = true -> now i = none -> d.at_ ∉ L.H /\ L.ob d.at_ = some d.ws
 l1 : ∀ i d t, Ds[i]? = some d -> d.h.l = true -> now i = some t -> t = d.at_ /\ d.at_ ∈ L.H /\ L.ob d.at_ = some d.older.ws
 inj : ∀ i j a b t, Ds[i]? = some a -> Ds[j]? = some b -> a.h.l = false -> b.h.l = false -> now i = some t -> now j = some t -> i = j
section
variable {Ds : List DO} {now : Nat -> Option Nat} {L : LarS} {T : StoS} {v : List Int} {ot : Nat} (e : EV Ds now L T v ot)
include e
theorem EV.apart {i j : Nat} {a b : DO} (hij : i ≠ j) (ha : Ds[i]? = some a) (hb : Ds[j]? = some b) (hl : a.h.l = b.h.l) : if a.h.l then a.at_ ≠ b.at_ else a.at_ + a.n <= b.at_ ∨ b.at_ + b.n <= a.at_ := by
 by_cases c : i < j
 ·have := e.ap i j a b c ha hb hl
  split at this
  ·next g => rw [if_pos g]; exact this
  ·next g => rw [if_neg g]; exact .inl this
 ·have := e.ap j i b a (by omega) hb ha hl.symm
  rw [<- hl] at this
  split at this
  ·next g => rw [if_pos g]; exact fun q => this q.symm
  ·next g => rw [if_neg g]; exact .inr this
theorem EV.room {i : Nat} {d : DO} (hd : Ds[i]? = some d) (hl : d.h.l = false) (hn : now i = none) : T.top + d.n <= ot := by
 have hi := (List.getElem?_eq_some_iff.1 hd).1
 have h1 : ∀ j, j ≠ i -> usN Ds (upN now i 0) j = usN Ds now j := fun j hj => by unfold usN upN; rw [if_neg hj]
 have h2 := sumTo_upd h1 hi
 have h3 : usN Ds now i = 0 := by unfold usN; rw [hn]; rfl
 have h4 : usN Ds (upN now i 0) i = d.n := by unfold usN upN smN; rw [if_pos rfl, hd]; simp [hl]
 have h5 : sumTo (usN Ds (upN now i 0)) Ds.length <= sumTo (smN Ds) Ds.length := sumTo_le fun j _ => by unfold usN; split <;> omega
 rw [e.top, e.tot]
 omega
theorem EV.tops {i : Nat} {d : DO} (hd : Ds[i]? = some d) (hn : now i = none) (t : Nat) : sumTo (usN Ds (upN now i t)) Ds.length = T.top + if d.h.l then 0 else d.n := by
 have hi := (List.getElem?_eq_some_iff.1 hd).1
 have h1 : ∀ j, j ≠ i -> usN Ds (upN now i t) j = usN Ds now j := fun j hj => by unfold usN upN; rw [if_neg hj]
 have h2 := sumTo_upd h1 hi
 have h3 : usN Ds now i = 0 := by unfold usN; rw [hn]; rfl
 have h4 : usN Ds (upN now i t) i = if d.h.l then 0 else d.n := by unfold usN upN smN; rw [if_pos rfl, hd]; simp
 rw [e.top]
 omega
theorem EV.small {i : Nat} {d : DO} (hd : Ds[i]? = some d) (hl : d.h.l = false) (hn : now i = none) : EV Ds (upN now i T.top) L { T with ws := (movedW T.ws v T.top d.at_ d.n).set T.top (d.h.older.word : Int), top := T.top + d.n } (v.set d.at_ (fwd T.top)) ot := by
 have hm := List.mem_of_getElem? hd
 have hr := e.room hd hl hn
 have hs := e.sm d hm hl
 have hvl := e.vl
 have hwl := e.wl
 have n1 : 1 <= d.n := by unfold DO.n; omega
 have hmv := movedW_get (ws := T.ws) (v := v) (top := T.top) (at_ := d.at_) (n := d.n) (by omega) (by omega)
 have hml : (movedW T.ws v T.top d.at_ d.n).length = T.ws.length := patched_len (by simp; omega)
 have oth : ∀ j b, j ≠ i -> Ds[j]? = some b -> b.h.l = false -> ∀ k, k < b.n -> d.at_ ≠ b.at_ + k := fun j b hj hb hbl k hk => by
  have := e.apart hj hb hd (by rw [hbl, hl])
  rw [hbl] at this
  simp only [Bool.false_eq_true, if_false] at this
  omega
 refine ⟨e.ok, e.sm, e.ap, by rw [List.length_set]; exact hvl, ?_, e.tot, by simp only [List.length_set, hml]; exact hwl, ?_, ?_, ?_, ?_, ?_⟩
 ·rw [e.tops hd hn, hl]; rfl
 ·intro j b hb hbl hj k hk
  have hji : j ≠ i := fun q => by subst q; simp [upN] at hj
  rw [getD_set_ne (oth j b hji hb hbl k hk)]
  exact e.s0 j b hb hbl (by simpa [upN, hji] using hj) k hk
 ·intro j b t hb hbl hj
  by_cases hji : j = i
  ·subst hji
   rw [hd] at hb; cases hb
   simp [upN] at hj
   subst hj
   refine ⟨getD_set_eq (by omega), Nat.le_refl _, fun k hk => ?_⟩
   simp only
   rw [DO.olderws]
   by_cases hk0 : k = 0
   ·subst hk0
    rw [Nat.add_zero, getD_set_eq (by omega), getD_set_eq (by rw [d.wsn]; omega)]
   ·rw [getD_set_ne (by omega), getD_set_ne (by omega), hmv, if_pos (by omega), show d.at_ + (T.top + k - T.top) = d.at_ + k by omega]
    exact e.s0 j d hd hl hn k hk
  ·obtain ⟨q1, q2, q3⟩ := e.s1 j b t hb hbl (by simpa [upN, hji] using hj)
   have o0 := oth j b hji hb hbl 0 (by unfold DO.n; omega)
   rw [Nat.add_zero] at o0
   refine ⟨by rw [getD_set_ne o0]; exact q1, by simp only; omega, fun k hk => ?_⟩
   simp only
   rw [getD_set_ne (by omega), hmv, if_neg (by omega)]
   exact q3 k hk
 ·intro j b hb hbl hj
  have hji : j ≠ i := fun q => by subst q; simp [upN] at hj
  exact e.l0 j b hb hbl (by simpa [upN, hji] using hj)
 ·intro j b t hb hbl hj
  have hji : j ≠ i := fun q => by subst q; rw [hd] at hb; cases hb; rw [hl] at hbl; cases hbl
  exact e.l1 j b t hb hbl (by simpa [upN, hji] using hj)
 ·intro j k a b t ha hb hal hbl hj hk
  by_cases hji : j = i
  ·by_cases hki : k = i
   ·rw [hji, hki]
   ·exfalso
    simp [upN, hji] at hj
    have := (e.s1 k b t hb hbl (by simpa [upN, hki] using hk)).2.1
    have : 1 <= b.n := by unfold DO.n; omega
    omega
  ·by_cases hki : k = i
   ·exfalso
    simp [upN, hki] at hk
    have := (e.s1 j a t ha hal (by simpa [upN, hji] using hj)).2.1
    have : 1 <= a.n := by unfold DO.n; omega
    omega
   ·exact e.inj j k a b t ha hb hal hbl (by simpa [upN, hji] using hj) (by simpa [upN, hki] using hk)
theorem EV.large {i : Nat} {d : DO} (hd : Ds[i]? = some d) (hl : d.h.l = true) (hn : now i = none) : EV Ds (upN now i d.at_) (L.met d.at_ d.ws (d.h.older.word : Int)) T v ot := by
 have oth : ∀ j b, j ≠ i -> Ds[j]? = some b -> b.h.l = true -> b.at_ ≠ d.at_ := fun j b hj hb hbl => by
  have := e.apart hj hb hd (by rw [hbl, hl])
  rw [hbl] at this
  simpa using this
 refine ⟨e.ok, e.sm, e.ap, e.vl, ?_, e.tot, e.wl, ?_, ?_, ?_, ?_, ?_⟩
 ·rw [e.tops hd hn, hl]; rfl
 ·intro j b hb hbl hj
  have hji : j ≠ i := fun q => by subst q; simp [upN] at hj
  exact e.s0 j b hb hbl (by simpa [upN, hji] using hj)
 ·intro j b t hb hbl hj
  have hji : j ≠ i := fun q => by subst q; rw [hd] at hb; cases hb; rw [hl] at hbl; cases hbl
  exact e.s1 j b t hb hbl (by simpa [upN, hji] using hj)
 ·intro j b hb hbl hj
  have hji : j ≠ i := fun q => by subst q; simp [upN] at hj
  obtain ⟨q1, q2⟩ := e.l0 j b hb hbl (by simpa [upN, hji] using hj)
  have := oth j b hji hb hbl
  refine ⟨?_, ?_⟩
  ·simp only [LarS.met, List.mem_append, List.mem_singleton]
   rintro (g | g)
   ·exact q1 g
   ·exact this g
  ·simp only [LarS.met]; rw [if_neg this]; exact q2
 ·intro j b t hb hbl hj
  by_cases hji : j = i
  ·subst hji
   rw [hd] at hb; cases hb
   simp [upN] at hj
   refine ⟨hj.symm, by simp [LarS.met], ?_⟩
   simp only [LarS.met, if_true]
   rw [DO.olderws]
  ·obtain ⟨q1, q2, q3⟩ := e.l1 j b t hb hbl (by simpa [upN, hji] using hj)
   have := oth j b hji hb hbl
   refine ⟨q1, by simp [LarS.met, q2], ?_⟩
   simp only [LarS.met]; rw [if_neg this]; exact q3
 ·intro j k a b t ha hb hal hbl hj hk
  have hji : j ≠ i := fun q => by subst q; rw [hd] at ha; cases ha; rw [hl] at hal; cases hal
  have hki : k ≠ i := fun q => by subst q; rw [hd] at hb; cases hb; rw [hl] at hbl; cases hbl
  exact e.inj j k a b t ha hb hal hbl (by simpa [upN, hji] using hj) (by simpa [upN, hki] using hk)
end
section
variable {f : Fn × List AV × List AV} {Tw : List Hd -> AH O -> List Nat -> Prop} (tl : Teller f Tw) {J : AH O} {eb sb nb lb pb mb : Nat} {M : MemS} {S : PoolS} {w : List Int} {L : LarS} {T : StoS} {X Z : List Nat} {oid : Int} {v : List Int} {ot : Nat} {hs : List Hd} (h : MovAt f Tw J eb sb nb lb pb mb M S w L T X [] oid v ot hs Z) (hf : M.far 100000) {Ds : List DO} {now : Nat -> Option Nat} (e : EV Ds now L T v ot)
include tl h hf e
theorem ev_again {i : Nat} {d : DO} (hd : Ds[i]? = some d) {t : Nat} (hn : now i = some t) : Ok (qqw [.p (some (.n eb, 0)), .i .u64 d.ref] J) fun r => r.1 = .i .u64 (d.to t) /\ ∃ M', MovAt f Tw r.2 eb sb nb lb pb mb M' S w L T X [] oid v ot hs Z /\ Beh [] M M' (if d.h.l then 2 else 1) 0 0 /\ (d.h.l = false -> Tk M M' 1) /\ Keep X J r.2 := by
 have hm := List.mem_of_getElem? hd
 have hvl := h.t.vl
 have hev := e.vl
 unfold DO.ref DO.to
 cases hl : d.h.l with
 | false =>
  obtain ⟨q1, q2, q3⟩ := e.s1 i d t hd hl hn
  have hs := e.sm d hm hl
  have htp := h.t.s.top
  have htl := h.t.s.tl
  have n1 : 1 <= d.n := by unfold DO.n; omega
  simp only [Bool.false_eq_true, if_false]
  exact (move_old tl h hf (at_ := d.at_) (to := t) (by omega) (by omega) (by omega) q1).mono fun r ⟨g1, M', g2, g3, g4, g5⟩ => ⟨g1, M', g2, g3, fun _ => g4, g5⟩
 | true =>
  obtain ⟨q1, q2, q3⟩ := e.l1 i d t hd hl hn
  subst q1
  simp only [if_true]
  exact (move_far_old tl h hf q2 (h.t.s.oblt q3)).mono fun r ⟨g1, M', g2, g3, g5⟩ => ⟨g1, M', g2, g3, fun q => by simp at q, g5⟩
theorem ev_move {i : Nat} {d : DO} (hd : Ds[i]? = some d) (hn : now i = none) (hc : hs.length < 1000) : Ok (qqw [.p (some (.n eb, 0)), .i .u64 d.ref] J) fun r => r.1 = .i .u64 (d.to (if d.h.l then d.at_ else T.top)) /\ ∃ M' S' w' L' T' v' Z', MovAt f Tw r.2 eb sb nb lb pb mb M' S' w' L' T' X [] oid v' ot (hs ++ [d.h.older]) Z' /\ EV Ds (upN now i (if d.h.l then d.at_ else T.top)) L' T' v' ot /\ Alike S S' /\ Beh [] M M' (if d.h.l then 18 else 2 * d.n + 3) 0 0 /\ (d.h.l = false -> Tk M M' (2 * d.n + 3)) /\ Keep X J r.2 := by
 have hm := List.mem_of_getElem? hd
 have hok := e.ok d hm
 have hvl := h.t.vl
 have hev := e.vl
 have hwl := e.wl
 have n1 : 1 <= d.n := by unfold DO.n; omega
 unfold DO.ref DO.to
 cases hl : d.h.l with
 | false =>
  have q := e.s0 i d hd hl hn 0 (by omega)
  have hs := e.sm d hm hl
  have hr := e.room hd hl hn
  simp only [Bool.false_eq_true, if_false]
  refine (move_new tl h hf (at_ := d.at_) (hd := d.h) hok.h q (by rw [hok.size]; exact hs) (by rw [hok.size]; omega) (by simp) (by simp) hc).mono fun r ⟨g1, M', Z', g2, g3, g4, g5⟩ => ?_
  rw [hok.size] at g2 g3 g4
  exact ⟨g1, M', S, w, L, _, _, Z', g2, e.small hd hl hn, Alike.refl S, g3, fun _ => g4, g5⟩
 | true =>
  obtain ⟨q1, q2⟩ := e.l0 i d hd hl hn
  simp only [if_true]
  refine (move_far_new tl h hf q2 q1 hok.h (by rw [d.wsn]; omega) rfl hc).mono fun r ⟨g1, M', S', w', Z', g2, g3, g4, g5⟩ => ?_
  exact ⟨g1, M', S', w', _, T, v, Z', g2, e.large hd hl hn, g3, g4, fun q => by simp at q, g5⟩
end
end Go.Abs.Tryz
