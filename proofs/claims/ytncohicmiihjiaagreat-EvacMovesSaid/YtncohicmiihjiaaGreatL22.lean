/-
  Layer 20: an object's words beside the document's. No conditions.
-/
import Derived.Test.YtncohicmiihjiaaGreatL21
import Derived.Test.YtncohicmiihjiaaGreatR20
import Derived.Test.YtncohicmiihjiaaGreatL20
import Derived.Test.YtncohicmiihjiaaGreatM20
set_option linter.unusedVariables false
set_option linter.unusedSimpArgs false
set_option linter.constructorNameAsVariable false
set_option linter.unusedSimpArgs false
set_option linter.unusedVariables false
set_option linter.unusedSectionVars false
set_option maxHeartbeats 4000000
namespace Go.Abs.Tryz
open Go Go.Abs
variable {O : Type}
theorem rpackH_ok (J : AH O) {h : Hd} (k : h.ok) : Ok (qaw [.agg [.i .i64 (h.p : Int), .i .i64 (h.r : Int), .i .i64 (h.s : Int), .i .i64 (h.g : Int), .b h.l]] J) fun q => q.1 = .i .u64 (h.word : Int) /\ Ext J q.2 := by
 have h1 := k.p; have h2 := k.r; have h3 := k.s; have h4 := k.g
 cases hl : h.l with
 | true =>
  simp (maxSteps := 2000000) -implicitDefEqProofs (disch := (first | omega | rfl | assumption | (simp only [rsD]; first | omega | assumption))) only [qaw, qav, Nat.reduceAdd, Nat.reduceMul, Nat.reduceLT, Int.reduceToNat, Int.reduceAdd, Int.reduceSub, Int.reduceMul, rsU, rsC]
  refine Ok_some.2 ⟨?_, (ext_of (by simp only [put_next, bump_next, kill_next]; omega) (fun b hb => by simp -implicitDefEqProofs (disch := (first | omega | rfl | assumption | (simp only [rsD]; first | omega | assumption))) only [s_bn, s_kn, bump_blk, s_ext]))⟩
  show AV.i _ _ = AV.i _ _
  congr 1
  simp only [Hd.word, Hd.w, Hd.ln, hl, if_true]
  omega
 | false =>
  simp (maxSteps := 2000000) -implicitDefEqProofs (disch := (first | omega | rfl | assumption | (simp only [rsD]; first | omega | assumption))) only [qaw, qav, Nat.reduceAdd, Nat.reduceMul, Nat.reduceLT, Int.reduceToNat, Int.reduceAdd, Int.reduceSub, Int.reduceMul, rsU, rsC]
  refine Ok_some.2 ⟨?_, (ext_of (by simp only [put_next, bump_next, kill_next]; omega) (fun b hb => by simp -implicitDefEqProofs (disch := (first | omega | rfl | assumption | (simp only [rsD]; first | omega | assumption))) only [s_bn, s_kn, bump_blk, s_ext]))⟩
  show AV.i _ _ = AV.i _ _
  congr 1
  simp only [Hd.word, Hd.w, Hd.ln, hl, Bool.false_eq_true, if_false]
  omega
section
variable {f : Fn × List AV × List AV} {Tw : List Hd -> AH O -> List Nat -> Prop} (tl : Teller f Tw) {eb sb nb lb pb mb : Nat} {S : PoolS} {w : List Int} {L : LarS} {T : StoS} {X Z : List Nat} {oid : Int} {v : List Int} {ot : Nat} {hs : List Hd} {o : Ob} {ws : List Int} (ho : o.is T L) (how : ∀ k, k < o.n -> obW T L o k = ws.getD k 0) {bx : Nat}
include tl ho how
theorem words1_ok {J : AH O} {M : MemS} (h : MovAt f Tw J eb sb nb lb pb mb M S w L T (bx :: X) [] oid v ot hs Z) {c c2 : Int} (hf : M.few c c2) (hc : c <= 10000000) {P : List Int} (hP : ∀ k, k < P.length -> ws.getD (1 + k) 0 = P.getD k 0) (hl : 1 + P.length <= o.n) (hl2 : P.length <= 1000) {cP : SA} (iP : Ints .u64 cP P) {c0 c1 c2' c3 c4 c6 c7 : AV} (hb : J.blk bx = some (.cells true 42 [c0, c1, c2', c3, c4, .sl cP P.length, c6, c7])) {hh : AH O} (eb' : hh.next = bx) :
  Ok (loopF (qa1 hh qly (some (.n sb, 0)) o.ref) ([.i .i64 0], J)) fun q => ∃ J', q = .inl ([], J') /\ ∃ M', MovAt f Tw J' eb sb nb lb pb mb M' S w L T (bx :: X) [] oid v ot hs Z /\ M'.few (c + 3 * P.length) c2 /\ Keep (bx :: X) J J' := by
 refine Ok.count P.length (fun k s => ∃ J' M', s = ([.i .i64 (k : Int)], J') /\ MovAt f Tw J' eb sb nb lb pb mb M' S w L T (bx :: X) [] oid v ot hs Z /\ M'.few (c + 3 * k) c2 /\ Keep (bx :: X) J J') ?_ ?_ ⟨J, M, rfl, h, hf.le (by omega) (Int.le_refl _), Keep.refl _ _⟩
 ·rintro k _ hk ⟨J1, M1, rfl, h1, f1, k1⟩
  have hb1 := (k1.blk bx (by simp)).trans hb
  have hi : decide ((k : Int) < (P.length : Int)) = true := decide_eq_true (by omega)
  obtain ⟨x, hx⟩ : ∃ x, P[k]? = some x := ⟨_, List.getElem?_eq_getElem hk⟩
  obtain ⟨b2, o2, rfl, ld2⟩ := iP.at hx
  have l2 := fun J : AH O => ld2 O J
  simp (maxSteps := 2000000) -implicitDefEqProofs (disch := (first | omega | rfl | assumption | (simp only [rsD]; first | omega | assumption))) only [qa1, eb', hb1, hi, Nat.reduceAdd, Nat.reduceMul, Nat.reduceLT, Int.reduceToNat, Int.reduceAdd, Int.reduceSub, Int.reduceMul, rsU, rsC]
  have wd := mov_word tl h1 (f1.far h1.t.s.l.p.mi.ok (by omega)) ho (k := 1 + k) (by omega)
  rw [show ((1 + k : Nat) : Int) = 1 + (k : Int) by omega] at wd
  refine Ok.step wd fun q ⟨g1, M2, h2, y2, k2⟩ => ?_
  obtain ⟨q, J2⟩ := q
  simp only at g1 h2 k2
  subst g1
  have hv : obW T L o (1 + k) = x := by rw [how _ (by omega), hP k hk, List.getD_eq_getElem?_getD, hx]; rfl
  rw [hv]
  have hb2 := (k2.blk bx (by simp)).trans hb1
  have e1 : (x == x) = true := by simp
  have f0 : (false == false) = true := rfl
  have z0 : ((0 : Int) == 0) = true := rfl
  simp (maxSteps := 2000000) -implicitDefEqProofs (disch := (first | omega | rfl | assumption | (simp only [rsD]; first | omega | assumption))) only [eb', hb2, hi, l2, bne, e1, f0, z0, Bool.not_true, Nat.reduceAdd, Nat.reduceMul, Nat.reduceLT, Int.reduceToNat, Int.reduceAdd, Int.reduceSub, Int.reduceMul, rsU, rsC]
  exact Ok_some.2 ⟨J2, M2, rfl, h2, (y2.few f1).le (by omega) (by omega), k1.trans k2⟩
 ·rintro _ ⟨J1, M1, rfl, h1, f1, k1⟩
  have hb1 := (k1.blk bx (by simp)).trans hb
  simp (maxSteps := 2000000) -implicitDefEqProofs (disch := (first | omega | rfl | assumption | (simp only [rsD]; first | omega | assumption))) only [qa1, eb', hb1, Nat.reduceAdd, Nat.reduceMul, Nat.reduceLT, Int.reduceToNat, Int.reduceAdd, Int.reduceSub, Int.reduceMul, rsU, rsC]
  exact Ok_some.2 ⟨J1, rfl, M1, h1, f1, k1⟩
theorem words2_ok {J : AH O} {M : MemS} (h : MovAt f Tw J eb sb nb lb pb mb M S w L T (bx :: X) [] oid v ot hs Z) {c c2 : Int} (hf : M.few c c2) (hc : c <= 10000000) {pn : Nat} {R : List Int} (hR : ∀ k, k < R.length -> ws.getD (1 + pn + k) 0 = R.getD k 0) (hl : 1 + pn + R.length <= o.n) (hl2 : R.length <= 1000 /\ pn <= 1000) {cP cR : SA} (iR : Ints .u64 cR R) {c0 c1 c2' c3 c4 c7 : AV} (hb : J.blk bx = some (.cells true 42 [c0, c1, c2', c3, c4, .sl cP pn, .sl cR R.length, c7])) {hh : AH O} (eb' : hh.next = bx) :
  Ok (loopF (qa0 hh qly (some (.n sb, 0)) o.ref) ([.i .i64 0], J)) fun q => ∃ J', q = .inl ([], J') /\ ∃ M', MovAt f Tw J' eb sb nb lb pb mb M' S w L T (bx :: X) [] oid v ot hs Z /\ M'.few (c + 3 * R.length) c2 /\ Keep (bx :: X) J J' := by
 refine Ok.count R.length (fun k s => ∃ J' M', s = ([.i .i64 (k : Int)], J') /\ MovAt f Tw J' eb sb nb lb pb mb M' S w L T (bx :: X) [] oid v ot hs Z /\ M'.few (c + 3 * k) c2 /\ Keep (bx :: X) J J') ?_ ?_ ⟨J, M, rfl, h, hf.le (by omega) (Int.le_refl _), Keep.refl _ _⟩
 ·rintro k _ hk ⟨J1, M1, rfl, h1, f1, k1⟩
  have hb1 := (k1.blk bx (by simp)).trans hb
  have hi : decide ((k : Int) < (R.length : Int)) = true := decide_eq_true (by omega)
  obtain ⟨x, hx⟩ : ∃ x, R[k]? = some x := ⟨_, List.getElem?_eq_getElem hk⟩
  obtain ⟨b2, o2, rfl, ld2⟩ := iR.at hx
  have l2 := fun J : AH O => ld2 O J
  simp (maxSteps := 2000000) -implicitDefEqProofs (disch := (first | omega | rfl | assumption | (simp only [rsD]; first | omega | assumption))) only [qa0, eb', hb1, hi, Nat.reduceAdd, Nat.reduceMul, Nat.reduceLT, Int.reduceToNat, Int.reduceAdd, Int.reduceSub, Int.reduceMul, rsU, rsC]
  have wd := mov_word tl h1 (f1.far h1.t.s.l.p.mi.ok (by omega)) ho (k := 1 + pn + k) (by omega)
  rw [show ((1 + pn + k : Nat) : Int) = 1 + (pn : Int) + (k : Int) by omega] at wd
  refine Ok.step wd fun q ⟨g1, M2, h2, y2, k2⟩ => ?_
  obtain ⟨q, J2⟩ := q
  simp only at g1 h2 k2
  subst g1
  have hv : obW T L o (1 + pn + k) = x := by rw [how _ (by omega), hR k hk, List.getD_eq_getElem?_getD, hx]; rfl
  rw [hv]
  have hb2 := (k2.blk bx (by simp)).trans hb1
  have e1 : (x == x) = true := by simp
  have f0 : (false == false) = true := rfl
  have z0 : ((0 : Int) == 0) = true := rfl
  simp (maxSteps := 2000000) -implicitDefEqProofs (disch := (first | omega | rfl | assumption | (simp only [rsD]; first | omega | assumption))) only [eb', hb2, hi, l2, bne, e1, f0, z0, Bool.not_true, Nat.reduceAdd, Nat.reduceMul, Nat.reduceLT, Int.reduceToNat, Int.reduceAdd, Int.reduceSub, Int.reduceMul, rsU, rsC]
  exact Ok_some.2 ⟨J2, M2, rfl, h2, (y2.few f1).le (by omega) (by omega), k1.trans k2⟩
 ·rintro _ ⟨J1, M1, rfl, h1, f1, k1⟩
  have hb1 := (k1.blk bx (by simp)).trans hb
  simp (maxSteps := 2000000) -implicitDefEqProofs (disch := (first | omega | rfl | assumption | (simp only [rsD]; first | omega | assumption))) only [qa0, eb', hb1, Nat.reduceAdd, Nat.reduceMul, Nat.reduceLT, Int.reduceToNat, Int.reduceAdd, Int.reduceSub, Int.reduceMul, rsU, rsC]
  exact Ok_some.2 ⟨J1, rfl, M1, h1, f1, k1⟩
end
theorem words_ok {f : Fn × List AV × List AV} {Tw : List Hd -> AH O -> List Nat -> Prop} (tl : Teller f Tw) {J : AH O} {eb sb nb lb pb mb : Nat} {M : MemS} {S : PoolS} {w : List Int} {L : LarS} {T : StoS} {X Z : List Nat} {oid : Int} {v : List Int} {ot : Nat} {hs : List Hd} (h : MovAt f Tw J eb sb nb lb pb mb M S w L T X [] oid v ot hs Z) {c c2 : Int} (hf : M.few c c2) (hc : c <= 5000000) {Ds : List DO} {now : Nat -> Option Nat} (e : EV Ds now L T v ot) {i : Nat} {d : DO} (hd : Ds[i]? = some d) (hP : d.P.length <= 100) (hR : d.R.length <= 100) {t : Nat} (hn : now i = some t) {cP cR : SA} (iP : Ints .u64 cP d.P) (iR : Ints .u64 cR d.R) (x : Int) :
  Ok (qa3 [.p (some (.n sb, 0)), .i .u64 (d.to t), .agg [.i .i64 (d.h.older.p : Int), .i .i64 (d.h.older.r : Int), .i .i64 (d.h.older.s : Int), .i .i64 (d.h.older.g : Int), .b d.h.older.l, .sl cP d.P.length, .sl cR d.R.length, .i .u64 x]] J) fun r => r.1 = .b true /\ ∃ M', MovAt f Tw r.2 eb sb nb lb pb mb M' S w L T X [] oid v ot hs Z /\ M'.few (c + 700) c2 /\ Keep X J r.2 := by
 obtain ⟨has, how⟩ := e.has hd hn
 have ok := e.ok d (List.mem_of_getElem? hd)
 have lX := h.lX
 rw [<- DO.nowref]
 have on : (d.nowOb t).n = d.n := rfl
 have dn : d.n = 1 + d.P.length + d.R.length := rfl
 simp (maxSteps := 2000000) -implicitDefEqProofs (disch := (first | omega | rfl | assumption | (simp only [rsD]; first | omega | assumption))) only [qa3, qa2, Nat.reduceAdd, Nat.reduceMul, Nat.reduceLT, Int.reduceToNat, Int.reduceAdd, Int.reduceSub, Int.reduceMul, rsU, rsC]
 generalize hJ : AH.put _ J.next _ = J1
 have n1 : J1.next = J.next + 1 := by rw [<- hJ]; rfl
 have b1 : J1.blk J.next = some (.cells true 42 [.i .i64 (d.h.older.p : Int), .i .i64 (d.h.older.r : Int), .i .i64 (d.h.older.s : Int), .i .i64 (d.h.older.g : Int), .b d.h.older.l, .sl cP d.P.length, .sl cR d.R.length, .i .u64 x]) := by rw [<- hJ]; exact s_bs
 have E1 : Ext J J1 := ⟨by omega, fun b hb => by rw [<- hJ]; simp -implicitDefEqProofs (disch := omega) only [s_bn, s_bs, s_kn, bump_blk]⟩
 clear hJ
 have h1 := h.turn tl (J' := J1) (K := []) (X' := J.next :: X) ⟨E1.next, fun b hb _ => E1.blk b hb⟩ (by simp) (fun b hb => by
  rcases List.mem_cons.1 hb with rfl | hb
  ·exact .inr ⟨Nat.le_refl _, by omega⟩
  ·exact .inl hb)
 refine Ok.step (mov_word tl h1 (hf.far h1.t.s.l.p.mi.ok (by omega)) has.is (k := 0) (by rw [on]; omega)) fun q ⟨g1, M2, h2, y2, k2⟩ => ?_
 obtain ⟨q, J2⟩ := q
 simp only at g1 h2 k2
 rw [has.w] at g1
 subst g1
 have b2 := (k2.blk J.next (by simp)).trans b1
 simp (maxSteps := 2000000) -implicitDefEqProofs (disch := (first | omega | rfl | assumption | (simp only [rsD]; first | omega | assumption))) only [b2, Nat.reduceAdd, Nat.reduceMul, Nat.reduceLT, Int.reduceToNat, Int.reduceAdd, Int.reduceSub, Int.reduceMul, rsU, rsC]
 refine Ok.step (rpackH_ok J2 ok.h.older) fun q ⟨g3, g4⟩ => ?_
 obtain ⟨q, J3⟩ := q
 simp only at g3 g4
 subst g3
 have h3 := h2.ext tl g4
 have b3 := (g4.blk J.next (h2.lX _ (by simp))).trans b2
 have k3 : Keep (J.next :: X) J1 J3 := k2.trans (keepOf g4 h2.lX)
 have f2 : M2.few (c + 3) c2 := (y2.few hf).le (by omega) (by omega)
 have e1 : ((d.h.older.word : Int) == (d.h.older.word : Int)) = true := by simp
 have f0 : (false == false) = true := rfl
 have z0 : ((0 : Int) == 0) = true := rfl
 simp (maxSteps := 2000000) -implicitDefEqProofs (disch := (first | omega | rfl | assumption | (simp only [rsD]; first | omega | assumption))) only [bne, e1, f0, z0, Bool.not_true, Nat.reduceAdd, Nat.reduceMul, Nat.reduceLT, Int.reduceToNat, Int.reduceAdd, Int.reduceSub, Int.reduceMul, rsU, rsC]
 have hws : ∀ k, k < d.P.length -> d.older.ws.getD (1 + k) 0 = d.P.getD k 0 := fun k hk => by
  rw [Nat.add_comm]
  show ((_ : Int) :: (d.P ++ d.R)).getD (k + 1) 0 = _
  rw [List.getD_cons_succ, List.getD_eq_getElem?_getD, List.getElem?_append_left hk, List.getD_eq_getElem?_getD]
 have hws2 : ∀ k, k < d.R.length -> d.older.ws.getD (1 + d.P.length + k) 0 = d.R.getD k 0 := fun k hk => by
  rw [show 1 + d.P.length + k = (d.P.length + k) + 1 by omega]
  show ((_ : Int) :: (d.P ++ d.R)).getD (d.P.length + k + 1) 0 = _
  rw [List.getD_cons_succ, List.getD_eq_getElem?_getD, List.getElem?_append_right (by omega), Nat.add_sub_cancel_left, List.getD_eq_getElem?_getD]
 have k1 : Keep X J J1 := ⟨E1.next, fun b hb => E1.blk b (lX b hb)⟩
 refine Ok.bindS (words1_ok tl has.is how h3 f2 (by omega) hws (by rw [on]; omega) (by omega) iP b3 rfl) ?_ (fun q hq => by obtain ⟨_, e, _⟩ := hq; cases e)
 rintro _ ⟨J4, e', M4, h4, f4, k4⟩
 simp only [Sum.inl.injEq] at e'
 subst e'
 have b4 := (k4.blk J.next (by simp)).trans b3
 simp (maxSteps := 2000000) -implicitDefEqProofs (disch := (first | omega | rfl | assumption | (simp only [rsD]; first | omega | assumption))) only [Nat.reduceAdd, Nat.reduceMul, Nat.reduceLT, Int.reduceToNat, Int.reduceAdd, Int.reduceSub, Int.reduceMul, rsU, rsC]
 refine Ok.bindS (words2_ok tl has.is how h4 f4 (by omega) hws2 (by rw [on]; omega) (by omega) iR b4 rfl) ?_ (fun q hq => by obtain ⟨_, e, _⟩ := hq; cases e)
 rintro _ ⟨J5, e', M5, h5, f5, k5⟩
 simp only [Sum.inl.injEq] at e'
 subst e'
 simp (maxSteps := 2000000) -implicitDefEqProofs (disch := (first | omega | rfl | assumption | (simp only [rsD]; first | omega | assumption))) only [Nat.reduceAdd, Nat.reduceMul, Nat.reduceLT, Int.reduceToNat, Int.reduceAdd, Int.reduceSub, Int.reduceMul, rsU, rsC]
 exact Ok_some.2 ⟨rfl, M5, h5.turn tl (K := []) ⟨Nat.le_refl _, fun _ _ _ => rfl⟩ (by simp) (fun b hb => .inl (by simp [hb])), f5.le (by omega) (Int.le_refl _), ((k1.trans k3.tail).trans k4.tail).trans k5.tail⟩
end Go.Abs.Tryz
namespace Go.Abs.Tryz
open Go Go.Abs
variable {O : Type}
def DO.nowV (d : DO) (x : Option Nat) : OV := match x with | none => d.ov | some t => ⟨d.h.older, d.P, d.R, d.to t⟩
def DO.nowW (d : DO) (x : Option Nat) : Int := match x with | none => 0 | some t => d.to t
structure DocE (Ds : List DO) (now : Nat -> Option Nat) (T : StoS) (hs : List Hd) (s : S20) : Prop where
 len : s.l.length = Ds.length /\ s.now.length = Ds.length
 l : ∀ (i : Nat) (d : DO), Ds[i]? = some d -> s.l[i]? = some (d.nowV (now i))
 nw : ∀ (i : Nat) (d : DO), Ds[i]? = some d -> s.now[i]? = some (d.nowW (now i))
 top : s.top = (T.top : Int)
 mv : s.mv.length = hs.length
 hd : ∀ (j : Nat) (h : Hd), hs[j]? = some h -> ∃ (i : Nat) (d : DO) (t : Nat), s.mv[j]? = some (i : Int) /\ Ds[i]? = some d /\ now i = some t /\ h = d.h.older
theorem DO.to_pos (d : DO) (t : Nat) : d.to t ≠ 0 := by
 unfold DO.to; split
 ·unfold rlg; omega
 ·unfold rsm; omega
theorem DocE.again {Ds : List DO} {now : Nat -> Option Nat} {T : StoS} {hs : List Hd} {s : S20} (h : DocE Ds now T hs s) (b : Bool) : DocE Ds now T hs (s.again b) := ⟨h.len, h.l, h.nw, h.top, h.mv, h.hd⟩
theorem DocE.new {Ds : List DO} {T : StoS} (ht : T.top = 0) : DocE Ds (fun _ => none) T [] (S20.new (Ds.map DO.ov)) where
 len := by simp [S20.new]
 l := fun i d hd => by simp [S20.new, hd, DO.nowV]
 nw := fun i d hd => by
  have := (List.getElem?_eq_some_iff.1 hd).1
  simp [S20.new, List.getElem?_replicate, this, DO.nowW]
 top := by rw [ht]; rfl
 mv := rfl
 hd := fun j h hj => by simp at hj
theorem DocE.move {Ds : List DO} {now : Nat -> Option Nat} {T T' : StoS} {hs : List Hd} {s : S20} (h : DocE Ds now T hs s) {i : Nat} {d : DO} (hd : Ds[i]? = some d) (hn : now i = none) (ht : T'.top = T.top + if d.h.l then 0 else d.n) : DocE Ds (upN now i (if d.h.l then d.at_ else T.top)) T' (hs ++ [d.h.older]) (s.moved i d.ov) /\ (s.went d.ov).word = d.to (if d.h.l then d.at_ else T.top) := by
 have hi := (List.getElem?_eq_some_iff.1 hd).1
 have hw : (s.went d.ov).word = d.to (if d.h.l then d.at_ else T.top) := by
  show (if d.h.l then d.ref else 2 * s.top + 1) = _
  unfold DO.ref DO.to
  rw [h.top]
  cases d.h.l with
  | true => rfl
  | false => simp only [Bool.false_eq_true, if_false]; unfold rsm; omega
 have hwv : s.went d.ov = d.nowV (some (if d.h.l then d.at_ else T.top)) := by
  show s.went d.ov = ⟨d.h.older, d.P, d.R, d.to _⟩
  rw [<- hw]
  rfl
 refine ⟨⟨?_, fun j b hb => ?_, fun j b hb => ?_, ?_, ?_, fun j g hj => ?_⟩, hw⟩
 ·simp [S20.moved, h.len]
 ·show (s.l.set i (s.went d.ov))[j]? = _
  rw [List.getElem?_set]
  by_cases c : i = j
  ·subst c
   rw [hd] at hb; cases hb
   rw [if_pos rfl, if_pos (by rw [h.len.1]; exact hi), hwv]
   simp [upN]
  ·rw [if_neg c, h.l j b hb]
   have : upN now i (if d.h.l then d.at_ else T.top) j = now j := by unfold upN; rw [if_neg (fun e => c e.symm)]
   rw [this]
 ·show (s.now.set i (s.went d.ov).word)[j]? = _
  rw [List.getElem?_set]
  by_cases c : i = j
  ·subst c
   rw [hd] at hb; cases hb
   rw [if_pos rfl, if_pos (by rw [h.len.2]; exact hi), hw]
   simp [upN, DO.nowW]
  ·rw [if_neg c, h.nw j b hb]
   have : upN now i (if d.h.l then d.at_ else T.top) j = now j := by unfold upN; rw [if_neg (fun e => c e.symm)]
   rw [this]
 ·show (if d.h.l then s.top else s.top + d.ov.n) = _
  rw [ht, h.top]
  have : d.ov.n = d.n := rfl
  rw [this]
  cases d.h.l <;> simp
 ·show (s.mv ++ [(i : Int)]).length = _
  simp [h.mv]
 ·by_cases c : j < hs.length
  ·rw [List.getElem?_append_left c] at hj
   obtain ⟨i', d', t', q1, q2, q3, q4⟩ := h.hd j g hj
   refine ⟨i', d', t', ?_, q2, ?_, q4⟩
   ·show (s.mv ++ [(i : Int)])[j]? = _
    rw [List.getElem?_append_left (by rw [h.mv]; exact c)]; exact q1
   ·unfold upN
    rw [if_neg (fun e => by rw [e, hn] at q3; cases q3)]
    exact q3
  ·have hj2 := (List.getElem?_eq_some_iff.1 hj).1
   simp at hj2
   have : j = hs.length := by omega
   subst this
   simp at hj
   refine ⟨i, d, _, ?_, hd, by unfold upN; rw [if_pos rfl], hj.symm⟩
   show (s.mv ++ [(i : Int)])[hs.length]? = _
   rw [<- h.mv]
   simp
theorem move_nil {f : Fn × List AV × List AV} {Tw : List Hd -> AH O -> List Nat -> Prop} {J : AH O} {eb : Nat} : qqw [.p (some (.n eb, 0)), .i .u64 0] J = some (.i .u64 0, J) := by
 simp (maxSteps := 2000000) -implicitDefEqProofs (disch := (first | omega | rfl | assumption | (simp only [rsD]; first | omega | assumption))) only [qqw, qqv, qle, qld, Nat.reduceAdd, Nat.reduceMul, Nat.reduceLT, Int.reduceToNat, Int.reduceAdd, Int.reduceSub, Int.reduceMul, rsU, rsC]
def Does {f : Fn × List AV × List AV} (Tw : List Hd -> AH O -> List Nat -> Prop) (tl : Teller f Tw) (eb sb nb lb pb mb : Nat) (M : MemS) (S : PoolS) (w : List Int) (L : LarS) (T : StoS) (X : List Nat) (oid : Int) (v : List Int) (ot : Nat) (hs : List Hd) (Z : List Nat) (Ds : List DO) (now : Nat -> Option Nat) (s s' : S20) (old x c : Int) : Prop :=
 ∀ J : AH O, MovAt f Tw J eb sb nb lb pb mb M S w L T X [] oid v ot hs Z -> Ok (qqw [.p (some (.n eb, 0)), .i .u64 old] J) fun r => r.1 = .i .u64 x /\ ∃ M' S' w' L' T' v' hs' Z' now', MovAt f Tw r.2 eb sb nb lb pb mb M' S' w' L' T' X [] oid v' ot hs' Z' /\ EV Ds now' L' T' v' ot /\ DocE Ds now' T' hs' s' /\ M.t <= M'.t /\ M'.t - M.t <= s'.steps - s.steps /\ hs'.length <= hs.length + 1 /\ M'.few (c + 80) 200 /\ Keep X J r.2
theorem both_ok {f : Fn × List AV × List AV} {Tw : List Hd -> AH O -> List Nat -> Prop} (tl : Teller f Tw) {J : AH O} {eb sb nb lb pb mb : Nat} {M : MemS} {S : PoolS} {w : List Int} {L : LarS} {T : StoS} {X Z : List Nat} {oid : Int} {v : List Int} {ot : Nat} {hs : List Hd} {c : Int} (hf : M.few c 200) (hok : M.ok) (hc : c <= 1000000) (htop : T.top <= 100000) (hhs : hs.length <= 500) {Ds : List DO} {now : Nat -> Option Nat} (e : EV Ds now L T v ot) (hDs : ∀ d ∈ Ds, d.P.length <= 15 /\ d.R.length <= 15) (hDl : Ds.length <= 20) {s : S20} (de : DocE Ds now T hs s) {a b cc : SA} (hs' : s.At a b cc) (hst : 0 <= s.steps /\ s.steps <= 100000) {old idx : Int} (hidx : (idx = -1 /\ old = 0) ∨ ∃ (i : Nat) (d : DO), idx = (i : Int) /\ Ds[i]? = some d /\ old = d.ref) :
  Ok (qar [.agg (s.cells a b cc), .i .i64 idx] J) fun q => ∃ s' a' b' c' x, q.1 = .tup [.agg (S20.cells s' a' b' c'), .i .u64 x] /\ S20.At s' a' b' c' /\ s.steps <= s'.steps /\ s'.steps <= s.steps + 80 /\ s'.l.length = Ds.length /\ Ext J q.2 /\ Does Tw tl eb sb nb lb pb mb M S w L T X oid v ot hs Z Ds now s s' old x c := by
 rcases hidx with ⟨rfl, rfl⟩ | ⟨i, d, rfl, hd, rfl⟩
 ·refine (rmove20_nil hs' (by decide)).mono fun q ⟨⟨a', b', c', g1, g2⟩, g3⟩ => ⟨s, a', b', c', 0, g1, g2, Int.le_refl _, by omega, de.len.1, g3, fun J h => ?_⟩
  rw [move_nil (f := f) (Tw := Tw)]
  exact Ok_some.2 ⟨rfl, M, S, w, L, T, v, hs, Z, now, h, e, de, Int.le_refl _, by omega, by omega, hf.le (by omega) (Int.le_refl _), Keep.refl _ _⟩
 ·have hm := List.mem_of_getElem? hd
  obtain ⟨dP, dR⟩ := hDs d hm
  have ok := e.ok d hm
  have dn : d.n <= 31 := by unfold DO.n; omega
  have hf5 : M.far 100000 := hf.far hok (by omega)
  cases hn : now i with
  | some t =>
   have h1 := de.l i d hd
   have h2 := de.nw i d hd
   rw [hn] at h1 h2
   refine (rmove20_old hs' (by rw [de.len.1]; omega) h1 (x := d.to t) h2 (d.to_pos t) (by omega)).mono fun q ⟨⟨a', b', c', g1, g2⟩, g3⟩ => ⟨_, a', b', c', _, g1, g2, ?_, ?_, de.len.1, g3, fun J h => ?_⟩
   ·show s.steps <= s.steps + _; split <;> omega
   ·show s.steps + _ <= _; split <;> omega
   ·refine (ev_again tl h hf5 e hd hn).mono fun r ⟨k1, M', k2, k3, k4, k5⟩ => ⟨k1, M', S, w, L, T, v, hs, Z, now, k2, e, de.again _, k3.mono'.1, ?_, by omega, (k3.few hf).le (by split <;> omega) (by omega), k5⟩
    have := k3.mono'.2
    show M'.t - M.t <= s.steps + (if d.h.older.l then 2 else 1) - s.steps
    have hl : d.h.older.l = d.h.l := rfl
    rw [hl]
    split at this
    ·next g => rw [if_pos g]; omega
    ·next g => rw [if_neg g]; omega
  | none =>
   have h1 := de.l i d hd
   have h2 := de.nw i d hd
   rw [hn] at h1 h2
   have dov : d.ov.n = d.n := rfl
   refine (rmove20_new hs' (by rw [de.len.1]; omega) (by rw [de.len.2]; omega) (by rw [de.mv]; omega) (o := d.ov) h1 h2 (by omega) (by rw [de.top]; omega) ok.h (by show d.P.length <= _; omega) (by show d.R.length <= _; omega)).mono fun q ⟨⟨a', b', c', g1, g2⟩, g3⟩ => ⟨_, a', b', c', _, g1, g2, ?_, ?_, by simp [S20.moved, de.len.1], g3, fun J h => ?_⟩
   ·show s.steps <= s.steps + _; split <;> omega
   ·show s.steps + _ <= _; rw [dov]; split <;> omega
   ·refine (ev_move tl h hf5 e hd hn (by omega)).mono fun r ⟨k1, M', S', w', L', T', v', Z', k2, k3, k4, k5, k6, k7⟩ => ?_
    have tp := k3.top
    rw [e.tops hd hn] at tp
    obtain ⟨m1, m2⟩ := de.move hd hn tp
    refine ⟨by rw [k1, m2], M', S', w', L', T', v', _, Z', _, k2, k3, m1, k5.mono'.1, ?_, by simp, (k5.few hf).le (by split <;> omega) (by omega), k7⟩
    have := k5.mono'.2
    show M'.t - M.t <= s.steps + (if d.h.l then 18 else 2 * (d.ov.n : Int) + 3) - s.steps
    rw [dov]
    split at this
    ·next g => rw [if_pos g]; omega
    ·next g => rw [if_neg g]; omega
end Go.Abs.Tryz
namespace Go.Abs.Tryz
open Go Go.Abs
variable {O : Type}
def Ev1 (bx eb sb nb lb pb mb wb tb : Nat) (oid : Int) (ot : Nat) (t0 : Int) (Ds : List DO) (k : Nat) (J : AH O) : Prop := ∃ M S w L T v hs Z now s a b c, MovAt (gathF bx) (Gath bx) J eb sb nb lb pb mb M S w L T [wb, tb] [] oid v ot hs Z /\ EV Ds now L T v ot /\ DocE Ds now T hs s /\ S20.At s a b c /\ J.blk wb = some (.cells true 63 (s.cells a b c)) /\ J.blk tb = some (.cells true 51 [.i .u64 0, .i .u64 t0]) /\ 0 <= t0 /\ t0 <= M.t /\ M.t <= t0 + s.steps /\ 0 <= s.steps /\ s.steps <= 80 * k /\ hs.length <= k /\ M.few (4000 + 80 * k) 200
theorem modU {x : Int} (h : 0 <= x /\ x <= 255) {n : Nat} (hn : 0 < n) : Int.tmod x (n : Int) = ((x.toNat % n : Nat) : Int) := by
 rw [Int.tmod_eq_emod_of_nonneg h.1, Int.natCast_emod, Int.toNat_of_nonneg h.1]
set_option maxRecDepth 100000 in
theorem move_step {bx eb sb nb lb pb mb wb tb : Nat} {oid : Int} {ot : Nat} {t0 : Int} {Ds : List DO} {k : Nat} {J : AH O} (h : Ev1 bx eb sb nb lb pb mb wb tb oid ot t0 Ds k J) (hot : ot <= 1000) (hwt : wb ≠ tb) (hDs : ∀ d ∈ Ds, d.P.length <= 15 /\ d.R.length <= 15) (hDl : Ds.length <= 20) (hk : k < 100) {al : SA} (ha : OAt al (Ds.map DO.ov)) {sm : SA} {n : Nat} (hkn : k < n) {x : Int} (hx : 0 <= x /\ x <= 255) (hm : ∃ b o, SA.ref sm = some (b, o) /\ ∀ J : AH O, J.ld b (o + k * 1) = some (.i .u8 x)) {h61 : AH O} {r48 : List AV × AH O} (e61 : h61.next = wb) (e48 : r48.2.next = tb) :
  Ok (qa9 (sm, n) (al, Ds.length) h61 qar qqw (some (.n eb, 0)) qq1 r48 qcz (some (.n sb, 0)) qsa qac qcp qnu ([.i .i64 (k : Int)], J)) fun q => ∃ J', q = .inl ([.i .i64 ((k + 1 : Nat) : Int)], J') /\ Ev1 bx eb sb nb lb pb mb wb tb oid ot t0 Ds (k + 1) J' := by
 obtain ⟨M, S, w, L, T, v, hs, Z, now, s, a, b, c, h, e, de, hs', hwb, htb, t0p, t1, t2, s0, s1, hl, fw⟩ := h
 obtain ⟨bm, om, href, ldm⟩ := hm
 simp only [Nat.mul_one] at ldm
 have f0 : (false == false) = true := rfl
 have z0 : ((0 : Int) == 0) = true := rfl
 have i1 : decide ((k : Int) < (n : Int)) = true := decide_eq_true (by omega)
 have i0 : decide ((0 : Int) <= (k : Int)) = true := decide_eq_true (by omega)
 have m1 : IntKind.i64.wrap x = x := s_i64 (by omega)
 have m2 : IntKind.i64.wrap ((Ds.length : Int) + 1) = ((Ds.length + 1 : Nat) : Int) := by rw [s_i64 (by omega)]; omega
 have m3 : Int.tmod x ((Ds.length + 1 : Nat) : Int) = ((x.toNat % (Ds.length + 1) : Nat) : Int) := modU hx (by omega)
 have m4 : (((Ds.length + 1 : Nat) : Int) == 0) = false := by rw [beq_eq_false_iff_ne]; omega
 generalize hm : x.toNat % (Ds.length + 1) = m at m3
 have hml : m < Ds.length + 1 := by rw [<- hm]; exact Nat.mod_lt _ (by omega)
 have w1 : IntKind.i64.wrap ((k : Int) + 1) = ((k + 1 : Nat) : Int) := by rw [s_i64 (by omega)]; omega
 have hok := h.t.s.l.p.mi.ok
 have htt : T.top <= 100000 := by have := h.t.s.top; have := e.wl; omega
 cases m
 case' zero =>
  have m5 : IntKind.i64.wrap (((0 : Nat) : Int) - 1) = -1 := s_i64 (by omega)
  have m6 : decide ((-1 : Int) >= 0) = false := rfl
  have hidx : ((-1 : Int) = -1 /\ (0 : Int) = 0) ∨ ∃ (i : Nat) (d : DO), (-1 : Int) = (i : Int) /\ Ds[i]? = some d /\ (0 : Int) = d.ref := .inl ⟨rfl, rfl⟩
  simp only [S20.cells] at hwb
  simp -implicitDefEqProofs only [qa9, i0, i1, Bool.and_true, href, Int.toNat_natCast, ldm, m1, m2, m3, m4, m5, m6, e61, hwb, Nat.reduceAdd, Nat.reduceMul, Nat.reduceLT, Int.reduceToNat, Int.reduceAdd, Int.reduceSub, Int.reduceMul, rsU, s_ldI, s_ldU, s_ldS, s_ldP, s_gtI, s_gtU, s_gtS, s_bleD, Nat.reduceLeDiff, decide_true, decide_false]
 case' succ i =>
  obtain ⟨d, hd⟩ : ∃ d, Ds[i]? = some d := ⟨_, List.getElem?_eq_getElem (by omega)⟩
  have m5 : IntKind.i64.wrap (((i + 1 : Nat) : Int) - 1) = (i : Int) := by rw [s_i64 (by omega)]; omega
  have m6 : decide ((i : Int) >= 0) = true := decide_eq_true (by omega)
  have m7 : decide ((0 : Int) <= (i : Int)) = true := decide_eq_true (by omega)
  have m8 : decide ((i : Int) < (Ds.length : Int)) = true := decide_eq_true (by omega)
  obtain ⟨bb, oo, _, _, rfl, _, _, ld⟩ := ha.obj (i := i) (x := d.ov) (by rw [List.getElem?_map, hd]; rfl)
  have l7 : ∀ J : AH O, J.ld bb (oo + i * 8 + 7) = some (.i .u64 d.ref) := fun J => (ld O J).2.2.2.2.2.2.2
  have hidx : ((i : Int) = -1 /\ d.ref = 0) ∨ ∃ (j : Nat) (d' : DO), (i : Int) = (j : Int) /\ Ds[j]? = some d' /\ d.ref = d'.ref := .inr ⟨i, d, rfl, hd, rfl⟩
  simp only [S20.cells] at hwb
  simp -implicitDefEqProofs only [qa9, i0, i1, Bool.and_true, href, Int.toNat_natCast, ldm, m1, m2, m3, m4, m5, m6, m7, m8, l7, e61, hwb, Nat.reduceAdd, Nat.reduceMul, Nat.reduceLT, Int.reduceToNat, Int.reduceAdd, Int.reduceSub, Int.reduceMul, rsU, s_ldI, s_ldU, s_ldS, s_ldP, s_gtI, s_gtU, s_gtS, s_bleD, Nat.reduceLeDiff, decide_true, decide_false]
 all_goals
  have bo := both_ok (gathT bx) (J := J) (eb := eb) (sb := sb) (nb := nb) (lb := lb) (pb := pb) (mb := mb) (S := S) (w := w) (X := [wb, tb]) (Z := Z) (oid := oid) fw hok (by omega) htt (by omega) e hDs hDl de hs' (by omega) hidx
  simp only [S20.cells] at bo
  refine Ok.step bo fun q ⟨s2, a2, b2, c2, y, g1, g2, g3, g4, g5, g6, does⟩ => ?_
  obtain ⟨q, J1⟩ := q
  simp only at g1 g6
  subst g1
  have h1 := h.ext (gathT bx) g6
  have lw : wb < J.next := h.lX wb (by simp)
  have lt : tb < J.next := h.lX tb (by simp)
  have hwb1 := (g6.blk wb lw).trans hwb
  have htb1 := (g6.blk tb lt).trans htb
  simp -implicitDefEqProofs only [hwb1, Nat.reduceAdd, Nat.reduceMul, Nat.reduceLT, Int.reduceToNat, Int.reduceAdd, Int.reduceSub, Int.reduceMul, rsU, s_ldI, s_ldU, s_ldS, s_ldP, s_gtI, s_gtU, s_gtS, s_bleD, Nat.reduceLeDiff, decide_true, decide_false]
  generalize hJ : AH.put J1 wb _ = J2
  have hwb2 : J2.blk wb = some (.cells true 63 [.sl a2 s2.l.length, .sl b2 s2.now.length, .i .i64 s2.top, .sl c2 s2.mv.length, .i .i64 s2.steps]) := by rw [<- hJ]; exact s_bs
  have htb2 : J2.blk tb = some (.cells true 51 [.i .u64 0, .i .u64 t0]) := by rw [<- hJ, s_bn (fun q => hwt q.symm)]; exact htb1
  have h2 := h1.turn (gathT bx) (J' := J2) (K := [wb]) (X' := [wb, tb]) ⟨by rw [<- hJ]; exact Nat.le_refl _, fun b hb hm => by rw [<- hJ]; exact s_bn (by simpa using hm)⟩ (by simp) (fun b hb => .inl hb)
  clear hJ
  refine Ok.step (does J2 h2) fun q ⟨p1, M3, S3, w3, L3, T3, v3, hs3, Z3, now3, h3, e3, de3, u1, u2, u3, fw3, k3⟩ => ?_
  obtain ⟨q, J3⟩ := q
  simp only at p1 h3 k3
  subst p1
  have hwb3 := (k3.blk wb (by simp)).trans hwb2
  have htb3 := (k3.blk tb (by simp)).trans htb2
  have yy : (y == y) = true := by simp
  have hb3 := h3.b
  have mm : ((hs3.length : Int) == (s2.mv.length : Int)) = true := by rw [de3.mv]; simp
  obtain ⟨el3, tb3, em3, rest3, hs3', hm3, mt3⟩ := h3.t.s.mem
  simp -implicitDefEqProofs only [bne, yy, Bool.not_true, f0, hwb3, e61, qq1, qq0, hb3, mm, e48, htb3, qcz, qcy, hs3', hm3, Nat.reduceAdd, Nat.reduceMul, Nat.reduceLT, Int.reduceToNat, Int.reduceAdd, Int.reduceSub, Int.reduceMul, rsU, s_ldI, s_ldU, s_ldS, s_ldP, s_gtI, s_gtU, s_gtS, s_bleD, Nat.reduceLeDiff, decide_true, decide_false]
  have t3 : M3.t < 18446744073709551616 := by have := fw3.1; unfold MemS.t; omega
  refine Ok.step (sinceS mt3 h3.t.s.l.p.mi.ok t3 t0p (by omega)) fun q ⟨p3, p4⟩ => ?_
  obtain ⟨q, J4⟩ := q
  simp only at p3 p4
  subst p3
  have h4 := h3.ext (gathT bx) p4
  have hwb4 := (p4.blk wb (h3.lX wb (by simp))).trans hwb3
  have htb4 := (p4.blk tb (h3.lX tb (by simp))).trans htb3
  have wu : IntKind.u64.wrap s2.steps = s2.steps := s_u64 (by omega)
  simp -implicitDefEqProofs only [hwb4, wu, Nat.reduceAdd, Nat.reduceMul, Nat.reduceLT, Int.reduceToNat, Int.reduceAdd, Int.reduceSub, Int.reduceMul, rsU, s_ldI, s_ldU, s_ldS, s_ldP, s_gtI, s_gtU, s_gtS, s_bleD, Nat.reduceLeDiff, decide_true, decide_false]
  have cmp := rcmp_le (J := J4) (a := M3.t - t0) (b := s2.steps) (by omega) (by omega) (by omega)
  rw [wcs_few (by omega), wcs_few (t := s2.steps) (by omega)] at cmp
  refine Ok.step cmp fun q ⟨⟨cn, p5, p6⟩, p7⟩ => ?_
  obtain ⟨q, J5⟩ := q
  simp only at p5 p7
  subst p5
  have h5 := h4.ext (gathT bx) p7
  have hwb5 := (p7.blk wb (h4.lX wb (by simp))).trans hwb4
  have htb5 := (p7.blk tb (h4.lX tb (by simp))).trans htb4
  have cz : decide (cn > 0) = false := decide_eq_false (by omega)
  obtain ⟨el5, hs5⟩ := h5.t.s.s
  obtain ⟨el5', hn5⟩ := h5.t.n
  have tt : ((T3.top : Int) == s2.top) = true := by rw [de3.top]; simp
  simp -implicitDefEqProofs only [cz, f0, hwb5, e61, qcp, qco, hs5, qnu, qnt, hn5, tt, bne, Bool.not_true, w1, Nat.reduceAdd, Nat.reduceMul, Nat.reduceLT, Int.reduceToNat, Int.reduceAdd, Int.reduceSub, Int.reduceMul, rsU, s_ldI, s_ldU, s_ldS, s_ldP, s_gtI, s_gtU, s_gtS, s_bleD, Nat.reduceLeDiff, decide_true, decide_false]
  exact Ok_some.2 ⟨J5, rfl, M3, S3, w3, L3, T3, v3, hs3, Z3, now3, s2, a2, b2, c2, h5, e3, de3, g2, hwb5, htb5, t0p, by omega, by omega, by omega, by omega, by omega, fw3.le (by omega) (Int.le_refl _)⟩
end Go.Abs.Tryz
namespace Go.Abs.Tryz
open Go Go.Abs
variable {O : Type}
theorem met_loop {bx wb : Nat} {J : AH O} {hs : List Hd} {Z : List Nat} (g : Gath bx hs J Z) {Ds : List DO} {now : Nat -> Option Nat} {T : StoS} {s : S20} (de : DocE Ds now T hs s) {a b c : SA} (hs' : S20.At s a b c) (hwb : J.blk wb = some (.cells true 63 (s.cells a b c))) (hl : hs.length <= 1000) {r6 : AV × AH O} {h61 : AH O} (e6 : r6.2.next = bx) (e61 : h61.next = wb) :
  Ok (loopF (qa8 r6 h61) ([.i .i64 0], J)) fun q => q = .inl ([], J) := by
 obtain ⟨ag, hb, ho, rfl, hn, hlt⟩ := g
 simp only [S20.cells] at hwb
 refine Ok.count hs.length (fun k s => s = ([.i .i64 (k : Int)], J)) ?_ ?_ rfl
 ·rintro k _ hk rfl
  obtain ⟨h, hh⟩ : ∃ h, hs[k]? = some h := ⟨_, List.getElem?_eq_getElem hk⟩
  obtain ⟨i, d, t, q1, q2, q3, q4⟩ := de.hd k h hh
  have hi := (List.getElem?_eq_some_iff.1 q2).1
  have i0 : decide ((0 : Int) <= (k : Int)) = true := decide_eq_true (by omega)
  have i1 : decide ((k : Int) < (hs.length : Int)) = true := decide_eq_true (by omega)
  have i2 : decide ((k : Int) < (s.mv.length : Int)) = true := decide_eq_true (by rw [de.mv]; omega)
  have i3 : decide ((0 : Int) <= (i : Int)) = true := decide_eq_true (by omega)
  have i4 : decide ((i : Int) < (s.l.length : Int)) = true := decide_eq_true (by rw [de.len.1]; omega)
  obtain ⟨b1, o1, rfl, l1⟩ := ho.rd.ref hk
  have av := fun j (hj : j < 5) => (l1 j hj).trans (fm_get' (enc := Hd.av) (fun _ => rfl) hj hh)
  have v0 := av 0 (by decide)
  have v1 := av 1 (by decide)
  have v2 := av 2 (by decide)
  have v3 := av 3 (by decide)
  have v4 := av 4 (by decide)
  simp only [Hd.av, Nat.add_zero, List.getElem?_cons_zero, List.getElem?_cons_succ] at v0 v1 v2 v3 v4
  obtain ⟨b2, o2, ec, l2⟩ := hs'.mv.at q1
  obtain ⟨b3, o3, _, _, ea, _, _, ld⟩ := hs'.l.obj (de.l i d q2)
  rw [q3] at ld
  have l2 := l2 O J
  have w0 := (ld O J).1
  have w1 := (ld O J).2.1
  have w2 := (ld O J).2.2.1
  have w3 := (ld O J).2.2.2.1
  have w4 := (ld O J).2.2.2.2.1
  simp only [DO.nowV] at w0 w1 w2 w3 w4
  subst q4
  rw [ea, ec] at hwb
  have e1 : ∀ z : Int, (z == z) = true := fun z => by simp
  have e2 : ∀ z : Bool, (z == z) = true := fun z => by simp
  have w5 : IntKind.i64.wrap ((k : Int) + 1) = ((k + 1 : Nat) : Int) := by rw [s_i64 (by omega)]; omega
  simp -implicitDefEqProofs only [qa8, e6, e61, hb, hwb, i0, i1, i2, i3, i4, Bool.and_true, SA.ref, Int.toNat_natCast, Nat.mul_one, v0, v1, v2, v3, v4, l2, w0, w1, w2, w3, w4, e1, e2, Bool.not_true, w5, Nat.reduceAdd, Nat.reduceMul, Nat.reduceLT, Int.reduceToNat, Int.reduceAdd, Int.reduceSub, Int.reduceMul, rsU, s_ldI, s_ldU, s_ldS, s_ldP, s_gtI, s_gtU, s_gtS, s_bleD, Nat.reduceLeDiff, decide_true, decide_false]
  exact Ok_some.2 rfl
 ·rintro _ rfl
  have i1 : decide ((hs.length : Int) < (hs.length : Int)) = false := decide_eq_false (by omega)
  simp -implicitDefEqProofs only [qa8, e6, hb, i1, Nat.reduceAdd, Nat.reduceMul, Nat.reduceLT, Int.reduceToNat, Int.reduceAdd, Int.reduceSub, Int.reduceMul, rsU, s_ldI, s_ldU, s_ldS, s_ldP, s_gtI, s_gtU, s_gtS, s_bleD, Nat.reduceLeDiff, decide_true, decide_false]
  exact Ok_some.2 rfl
theorem find_loop {f : Fn × List AV × List AV} {Tw : List Hd -> AH O -> List Nat -> Prop} (tl : Teller f Tw) {J : AH O} {eb sb nb lb pb mb wb tb : Nat} {M : MemS} {S : PoolS} {w : List Int} {L : LarS} {T : StoS} {Z : List Nat} {oid : Int} {v : List Int} {ot : Nat} {hs : List Hd} (h : MovAt f Tw J eb sb nb lb pb mb M S w L T [wb, tb] [] oid v ot hs Z) {cc : Int} (hf : M.few cc 200) (hc : cc <= 1000000) {Ds : List DO} {now : Nat -> Option Nat} (e : EV Ds now L T v ot) (hDs : ∀ d ∈ Ds, d.P.length <= 15 /\ d.R.length <= 15) (hDl : Ds.length <= 20) {s : S20} (de : DocE Ds now T hs s) {a b c : SA} (hs' : S20.At s a b c) (hwb : J.blk wb = some (.cells true 63 (s.cells a b c))) {al : SA} (ha : OAt al (Ds.map DO.ov)) {h61 : AH O} (e61 : h61.next = wb) :
  Ok (loopF (qa7 (al, Ds.length) qq6 (some (.n eb, 0)) h61 qa3 (some (.n sb, 0))) ([.i .i64 0], J)) fun q => ∃ J', q = .inl ([], J') /\ ∃ M', MovAt f Tw J' eb sb nb lb pb mb M' S w L T [wb, tb] [] oid v ot hs Z /\ M'.few (cc + 710 * Ds.length) 200 := by
 simp only [S20.cells] at hwb
 refine Ok.count Ds.length (fun k s' => ∃ J' M', s' = ([.i .i64 (k : Int)], J') /\ MovAt f Tw J' eb sb nb lb pb mb M' S w L T [wb, tb] [] oid v ot hs Z /\ M'.few (cc + 710 * k) 200 /\ Keep [wb, tb] J J') ?_ ?_ ⟨J, M, rfl, h, hf.le (by omega) (Int.le_refl _), Keep.refl _ _⟩
 ·rintro k _ hk ⟨J1, M1, rfl, h1, f1, k1⟩
  obtain ⟨d, hd⟩ : ∃ d, Ds[k]? = some d := ⟨_, List.getElem?_eq_getElem hk⟩
  obtain ⟨dP, dR⟩ := hDs d (List.mem_of_getElem? hd)
  have hwb1 := (k1.blk wb (by simp)).trans hwb
  obtain ⟨bb, oo, _, _, rfl, _, _, ld⟩ := ha.obj (i := k) (x := d.ov) (by rw [List.getElem?_map, hd]; rfl)
  have l7 : ∀ J : AH O, J.ld bb (oo + k * 8 + 7) = some (.i .u64 d.ref) := fun J => (ld O J).2.2.2.2.2.2.2
  have i0 : decide ((0 : Int) <= (k : Int)) = true := decide_eq_true (by omega)
  have i1 : decide ((k : Int) < (Ds.length : Int)) = true := decide_eq_true (by omega)
  have i2 : decide ((k : Int) < (s.now.length : Int)) = true := decide_eq_true (by rw [de.len.2]; omega)
  have i3 : decide ((k : Int) < (s.l.length : Int)) = true := decide_eq_true (by rw [de.len.1]; omega)
  have w5 : IntKind.i64.wrap ((k : Int) + 1) = ((k + 1 : Nat) : Int) := by rw [s_i64 (by omega)]; omega
  have f0 : (false == false) = true := rfl
  have t0 : (true == true) = true := rfl
  have t1 : (false == true) = false := rfl
  have z0 : ((0 : Int) == 0) = true := rfl
  obtain ⟨b2, o2, rfl, l2⟩ := hs'.now.at (de.nw k d hd)
  have l2 := fun J : AH O => l2 O J
  simp -implicitDefEqProofs only [qa7, i0, i1, Bool.and_true, SA.ref, Int.toNat_natCast, l7, Nat.reduceAdd, Nat.reduceMul, Nat.reduceLT, Int.reduceToNat, Int.reduceAdd, Int.reduceSub, Int.reduceMul, rsU, s_ldI, s_ldU, s_ldS, s_ldP, s_gtI, s_gtU, s_gtS, s_bleD, Nat.reduceLeDiff, decide_true, decide_false]
  refine Ok.step (find_ok tl h1 (f1.far h1.t.s.l.p.mi.ok (by omega)) e hd) fun q ⟨g1, M2, h2, y2, k2⟩ => ?_
  obtain ⟨q, J2⟩ := q
  simp only at g1 h2 k2
  subst g1
  have hwb2 := (k2.blk wb (by simp)).trans hwb1
  have f2 : M2.few (cc + 710 * k + 10) 200 := (y2.few f1).le (by omega) (by omega)
  have yy : ∀ z : Int, (z == z) = true := fun z => by simp
  cases hn : now k with
  | none =>
   rw [hn] at l2
   simp only [DO.nowW] at l2
   simp -implicitDefEqProofs only [e61, hwb2, i0, i2, Bool.and_true, SA.ref, Int.toNat_natCast, Nat.mul_one, l2, bne, yy, Bool.not_true, f0, t1, w5, Nat.reduceAdd, Nat.reduceMul, Nat.reduceLT, Int.reduceToNat, Int.reduceAdd, Int.reduceSub, Int.reduceMul, rsU, s_ldI, s_ldU, s_ldS, s_ldP, s_gtI, s_gtU, s_gtS, s_bleD, Nat.reduceLeDiff, decide_true, decide_false]
   exact Ok_some.2 ⟨J2, M2, rfl, h2, f2.le (by omega) (Int.le_refl _), k1.trans k2⟩
  | some t =>
   have nz : (d.to t == 0) = false := by rw [beq_eq_false_iff_ne]; exact d.to_pos t
   obtain ⟨b3, o3, cP, cR, rfl, iP, iR, ld3⟩ := hs'.l.obj (de.l k d hd)
   rw [hn] at l2 ld3 iP iR
   simp only [DO.nowW] at l2
   simp only [DO.nowV] at ld3 iP iR
   have a0 := fun J : AH O => (ld3 O J).1
   have a1 := fun J : AH O => (ld3 O J).2.1
   have a2 := fun J : AH O => (ld3 O J).2.2.1
   have a3 := fun J : AH O => (ld3 O J).2.2.2.1
   have a4 := fun J : AH O => (ld3 O J).2.2.2.2.1
   have a5 := fun J : AH O => (ld3 O J).2.2.2.2.2.1
   have a6 := fun J : AH O => (ld3 O J).2.2.2.2.2.2.1
   have a7 := fun J : AH O => (ld3 O J).2.2.2.2.2.2.2
   simp -implicitDefEqProofs only [e61, hwb2, i0, i2, i3, Bool.and_true, SA.ref, Int.toNat_natCast, Nat.mul_one, l2, bne, yy, nz, Bool.not_true, Bool.not_false, f0, t0, a0, a1, a2, a3, a4, a5, a6, a7, Nat.reduceAdd, Nat.reduceMul, Nat.reduceLT, Int.reduceToNat, Int.reduceAdd, Int.reduceSub, Int.reduceMul, rsU, s_ldI, s_ldU, s_ldS, s_ldP, s_gtI, s_gtU, s_gtS, s_bleD, Nat.reduceLeDiff, decide_true, decide_false]
   refine Ok.step (words_ok tl h2 f2 (by omega) e hd (by omega) (by omega) hn iP iR (d.to t)) fun q ⟨p1, M3, h3, f3, k3⟩ => ?_
   obtain ⟨q, J3⟩ := q
   simp only at p1 h3 k3
   subst p1
   simp -implicitDefEqProofs only [Bool.not_true, w5, Nat.reduceAdd, Nat.reduceMul, Nat.reduceLT, Int.reduceToNat, Int.reduceAdd, Int.reduceSub, Int.reduceMul, rsU, s_ldI, s_ldU, s_ldS, s_ldP, s_gtI, s_gtU, s_gtS, s_bleD, Nat.reduceLeDiff, decide_true, decide_false]
   exact Ok_some.2 ⟨J3, M3, rfl, h3, f3.le (by omega) (Int.le_refl _), (k1.trans k2).trans k3⟩
 ·rintro _ ⟨J1, M1, rfl, h1, f1, k1⟩
  have i1 : decide ((Ds.length : Int) < (Ds.length : Int)) = false := decide_eq_false (by omega)
  simp -implicitDefEqProofs only [qa7, i1, Nat.reduceAdd, Nat.reduceMul, Nat.reduceLT, Int.reduceToNat, Int.reduceAdd, Int.reduceSub, Int.reduceMul, rsU, s_ldI, s_ldU, s_ldS, s_ldP, s_gtI, s_gtU, s_gtS, s_bleD, Nat.reduceLeDiff, decide_true, decide_false]
  exact Ok_some.2 ⟨J1, rfl, M1, h1, f1⟩
end Go.Abs.Tryz
namespace Go.Abs.Tryz
open Go Go.Abs Go.Proofs
variable {O : Type}
set_option maxRecDepth 100000 in
theorem awake20z : ∃ J' : AH O, qrb (O := O) [] startH = some (.b true, J') := by
 have h : (qrb (O := O) [] startH).map (·.1) = some (.b true) := by kernel_rfl
 cases e : qrb (O := O) [] startH with
 | none => rw [e] at h; cases h
 | some r =>
  rw [e] at h
  obtain ⟨v, J'⟩ := r
  simp only [Option.map_some, Option.some.injEq] at h
  subst h
  exact ⟨J', rfl⟩
set_option maxRecDepth 100000 in
theorem evacMoves_ok {sa : SA} {zs : List MZ} (hi : Imm 4 sa zs.length (zs.flatMap MZ.cs)) (ho : ∀ z ∈ zs, z.ok) {sm : SA} {ms : List Int} (im : Ints .u8 sm ms) (hr : ∀ x ∈ ms, 0 <= x /\ x <= 255) : Ok (law20_EvacMoves (O := O) [.sl sa zs.length, .sl sm ms.length] startH) fun r => r.1 = .b true := by
 obtain ⟨J1, ea⟩ := awake20z (O := O)
 have f0 : (false == false) = true := rfl
 have f1 : (true == false) = false := rfl
 have z0 : ((0 : Int) == 0) = true := rfl
 have z1 : ((1 : Int) == 1) = true := rfl
 simp -implicitDefEqProofs only [law20_EvacMoves, qba, ea, Bool.not_true, Nat.reduceAdd, Nat.reduceMul, Nat.reduceLT, Int.reduceToNat, Int.reduceAdd, Int.reduceSub, Int.reduceMul, rsU, s_ldI, s_ldU, s_ldS, s_ldP, s_gtI, s_gtU, s_gtS, s_bleD, Nat.reduceLeDiff, decide_true, decide_false]
 by_cases c1 : (zs.length : Int) > 16
 ·simp -implicitDefEqProofs only [decide_eq_true c1, f1, Nat.reduceAdd, Nat.reduceMul, Nat.reduceLT, Int.reduceToNat, Int.reduceAdd, Int.reduceSub, Int.reduceMul, rsU, s_ldI, s_ldU, s_ldS, s_ldP, s_gtI, s_gtU, s_gtS, s_bleD, Nat.reduceLeDiff, decide_true, decide_false]
  exact Ok_some.2 rfl
 by_cases c2 : (ms.length : Int) > 60
 ·simp -implicitDefEqProofs only [decide_eq_false c1, f0, decide_eq_true c2, Nat.reduceAdd, Nat.reduceMul, Nat.reduceLT, Int.reduceToNat, Int.reduceAdd, Int.reduceSub, Int.reduceMul, rsU, s_ldI, s_ldU, s_ldS, s_ldP, s_gtI, s_gtU, s_gtS, s_bleD, Nat.reduceLeDiff, decide_true, decide_false]
  exact Ok_some.2 rfl
 simp -implicitDefEqProofs only [decide_eq_false c1, f0, decide_eq_false c2, Nat.reduceAdd, Nat.reduceMul, Nat.reduceLT, Int.reduceToNat, Int.reduceAdd, Int.reduceSub, Int.reduceMul, rsU, s_ldI, s_ldU, s_ldS, s_ldP, s_gtI, s_gtU, s_gtS, s_bleD, Nat.reduceLeDiff, decide_true, decide_false]
 refine Ok.step (made_ok (X := []) (zs := zs) (by simp) (askedImm hi) (by omega) ho) fun q ⟨sb, nb, lb, pb, mb, M, S, w1, L, T, Ds, al, g1, m, hl, ha, _⟩ => ?_
 obtain ⟨q, J3⟩ := q
 simp only at g1 m
 subst g1
 simp -implicitDefEqProofs only [Bool.not_true, Nat.reduceAdd, Nat.reduceMul, Nat.reduceLT, Int.reduceToNat, Int.reduceAdd, Int.reduceSub, Int.reduceMul, rsU, s_ldI, s_ldU, s_ldS, s_ldP, s_gtI, s_gtU, s_gtS, s_bleD, Nat.reduceLeDiff, decide_true, decide_false]
 generalize hJ : AH.put _ J3.next _ = J4
 have n4 : J4.next = J3.next + 1 := by rw [<- hJ]; rfl
 have b4 : J4.blk J3.next = some (.cells true 48 [.sl .nil 0]) := by rw [<- hJ]; exact s_bs
 have E4 : Ext J3 J4 := ⟨by omega, fun b hb => by rw [<- hJ]; simp -implicitDefEqProofs (disch := omega) only [s_bn, s_bs, s_kn, bump_blk]⟩
 clear hJ
 refine Ok.step (enewF_ok J4 sb (gathF J3.next)) fun q ⟨e1, e2, e3, e4⟩ => ?_
 obtain ⟨q, J5⟩ := q
 simp only at e1 e2 e3 e4
 subst e1
 have b5 := (e4.blk J3.next (by omega)).trans b4
 have E5 := E4.trans e4
 generalize hbx : J3.next = bx at b4 b5 n4 E5 e2 ⊢
 generalize heb : J4.next = eb at e2 e3 n4
 have m5 : StoAt (J5.bump 1) sb nb lb pb mb M S w1 L T (eb :: ([bx] ++ [J5.next])) [] := m.a.turn (K := []) ⟨by have := E5.next; simp; omega, fun b hb _ => E5.blk b hb⟩ (by simp) (fun b hb => by
  simp at hb
  refine .inr ?_
  rw [hbx]
  rcases hb with rfl | rfl | rfl <;> simp <;> omega)
 obtain ⟨el5, tb5, em5, rest5, hs5, hm5, mt5⟩ := m5.mem
 simp only [bump_blk] at hs5 hm5
 have fw : M.few 3000 100 := m.few.le (by omega) (by omega)
 have t5 := MemS.t0 m5.l.p.mi.ok
 have t5' : M.t <= 3000 := fw.1
 simp -implicitDefEqProofs only [qcz, qcy, hs5, hm5, Nat.reduceAdd, Nat.reduceMul, Nat.reduceLT, Int.reduceToNat, Int.reduceAdd, Int.reduceSub, Int.reduceMul, rsU, s_ldI, s_ldU, s_ldS, s_ldP, s_gtI, s_gtU, s_gtS, s_bleD, Nat.reduceLeDiff, decide_true, decide_false]
 refine Ok.step (tickS mt5 m5.l.p.mi.ok (by omega)) fun q ⟨j1, j2⟩ => ?_
 obtain ⟨q, J6⟩ := q
 simp only at j1 j2
 subst j1
 have m6 := m5.ext j2
 generalize hA : J5.next = A at e3 m5 m6 j2
 have lA : A < J6.next := m6.lt A (by simp)
 have lb6 : bx < J6.next := m6.lt bx (by simp)
 have le6 : eb < J6.next := m6.lt eb (by simp)
 simp -implicitDefEqProofs only [Nat.reduceAdd, Nat.reduceMul, Nat.reduceLT, Int.reduceToNat, Int.reduceAdd, Int.reduceSub, Int.reduceMul, rsU, s_ldI, s_ldU, s_ldS, s_ldP, s_gtI, s_gtU, s_gtS, s_bleD, Nat.reduceLeDiff, decide_true, decide_false]
 generalize hJ : AH.put J6 A _ = J7
 have n7 : J7.next = J6.next := by rw [<- hJ]; rfl
 have b7A : J7.blk A = some (.cells true 51 [.i .u64 0, .i .u64 M.t]) := by rw [<- hJ]; exact s_bs
 have c7 : Chg [A] J6 J7 := ⟨by rw [<- hJ]; exact Nat.le_refl _, fun b hb hm => by rw [<- hJ]; exact s_bn (by simpa using hm)⟩
 clear hJ
 have m7 := m6.turn c7 (Z := eb :: ([bx] ++ [A])) (fun b hb => .inl (by simp at hb; simp [hb])) (fun b hb => .inl hb)
 have b7x : J7.blk bx = some (.cells true 48 [.sl .nil 0]) := (c7.blk bx lb6 (by simp; omega)).trans ((j2.blk bx (by simp; omega)).trans b5)
 have b7e := (c7.blk eb le6 (by simp; omega)).trans ((j2.blk eb (by simp; omega)).trans e2)
 have gx : Gath (O := O) bx [] J7 [bx] := ⟨.nil, b7x, OwnS.nil _ _ _, rfl, by simp [SA.bk], by omega⟩
 refine Ok.step (begin_ok (gathT bx) m7 b7e ⟨by simp; omega, by simp; omega⟩ (by simp; omega) gx (fw.far m7.l.p.mi.ok (by decide)) (by have := fw.2; omega) m.old (by rw [m.ep]; decide)) fun q ⟨p1, M8, S8, w8, h8, _, y8, k8⟩ => ?_
 obtain ⟨q, J8⟩ := q
 simp only at p1 h8 k8
 subst p1
 have ev := m.ev (ff M.sp)
 have no2 := begin_no h8
 have b8A := (k8.blk A (by simp)).trans b7A
 obtain ⟨t8, t8'⟩ := y8.mono'
 have fw8 : M8.few 3100 200 := (y8.few fw).le (by omega) (by omega)
 have t8u : M8.t <= 3100 := fw8.1
 obtain ⟨el8, tb8, em8, rest8, hs8, hm8, mt8⟩ := h8.t.s.mem
 simp -implicitDefEqProofs only [bne, z0, z1, Bool.not_true, f0, no2, b8A, qcz, qcy, hs8, hm8, Nat.reduceAdd, Nat.reduceMul, Nat.reduceLT, Int.reduceToNat, Int.reduceAdd, Int.reduceSub, Int.reduceMul, rsU, s_ldI, s_ldU, s_ldS, s_ldP, s_gtI, s_gtU, s_gtS, s_bleD, Nat.reduceLeDiff, decide_true, decide_false]
 refine Ok.step (sinceS mt8 h8.t.s.l.p.mi.ok (by omega) t5 t8) fun q ⟨j3, j4⟩ => ?_
 obtain ⟨q, J9⟩ := q
 simp only at j3 j4
 subst j3
 have h9 := h8.ext (gathT bx) j4
 simp -implicitDefEqProofs only [Nat.reduceAdd, Nat.reduceMul, Nat.reduceLT, Int.reduceToNat, Int.reduceAdd, Int.reduceSub, Int.reduceMul, rsU, s_ldI, s_ldU, s_ldS, s_ldP, s_gtI, s_gtU, s_gtS, s_bleD, Nat.reduceLeDiff, decide_true, decide_false]
 have cmp := rcmp_le (J := J9) (a := M8.t - M.t) (b := 2) (by omega) (by omega) (by decide)
 rw [wcs_few (by omega), wcs_few (t := 2) (by decide)] at cmp
 refine Ok.step cmp fun q ⟨⟨cn, j5, j6⟩, j7⟩ => ?_
 obtain ⟨q, J10⟩ := q
 simp only at j5 j7
 subst j5
 have h10 := h9.ext (gathT bx) j7
 have cz : decide (cn > 0) = false := decide_eq_false (by omega)
 have h11 : MovAt (gathF bx) (Gath bx) (J10.bump 1) eb sb nb lb pb mb M8 S8 w8 L.fresh (T.flip (ff M.sp)) [J10.next] [] T.id T.ws T.top [] [bx] := h10.turn (gathT bx) (K := []) ⟨by simp, fun _ _ _ => rfl⟩ (by simp) (fun b hb => by simp at hb; subst hb; exact .inr ⟨Nat.le_refl _, by simp⟩)
 obtain ⟨el11, tb11, em11, rest11, hs11, hm11, mt11⟩ := h11.t.s.mem
 simp only [bump_blk] at hs11 hm11
 simp -implicitDefEqProofs only [cz, qcz, qcy, hs11, hm11, Nat.reduceAdd, Nat.reduceMul, Nat.reduceLT, Int.reduceToNat, Int.reduceAdd, Int.reduceSub, Int.reduceMul, rsU, s_ldI, s_ldU, s_ldS, s_ldP, s_gtI, s_gtU, s_gtS, s_bleD, Nat.reduceLeDiff, decide_true, decide_false]
 refine Ok.step (tickS mt11 h11.t.s.l.p.mi.ok (by omega)) fun q ⟨j8, j9⟩ => ?_
 obtain ⟨q, J11⟩ := q
 simp only at j8 j9
 subst j8
 have h12 := h11.ext (gathT bx) j9
 generalize hB : J10.next = B at h11 h12 j9
 have lB : B < J11.next := h12.lX B (by simp)
 simp -implicitDefEqProofs only [Nat.reduceAdd, Nat.reduceMul, Nat.reduceLT, Int.reduceToNat, Int.reduceAdd, Int.reduceSub, Int.reduceMul, rsU, s_ldI, s_ldU, s_ldS, s_ldP, s_gtI, s_gtU, s_gtS, s_bleD, Nat.reduceLeDiff, decide_true, decide_false]
 generalize hJ : AH.put J11 B _ = J12
 have n12 : J11.next = J12.next := by rw [<- hJ]; rfl
 have b12 : J12.blk B = some (.cells true 51 [.i .u64 0, .i .u64 M8.t]) := by rw [<- hJ]; exact s_bs
 have h13 := h12.turn (gathT bx) (J' := J12) (K := [B]) (X' := [B]) ⟨by rw [<- hJ]; exact Nat.le_refl _, fun b hb hm => by rw [<- hJ]; exact s_bn (by simpa using hm)⟩ (by simp) (fun b hb => .inl hb)
 clear hJ
 rw [n12]
 have lB12 : B < J12.next := by omega
 have h14 : MovAt (gathF bx) (Gath bx) (J12.bump 1) eb sb nb lb pb mb M8 S8 w8 L.fresh (T.flip (ff M.sp)) [J12.next, B] [] T.id T.ws T.top [] [bx] := h13.turn (gathT bx) (K := []) ⟨by simp, fun _ _ _ => rfl⟩ (by simp) (fun b hb => by
  rcases List.mem_cons.1 hb with rfl | hb
  ·exact .inr ⟨Nat.le_refl _, by simp⟩
  ·exact .inl hb)
 have nw := rnew20_ok (J := J12.bump 1) ha (by simp; omega)
 rw [List.length_map] at nw
 refine Ok.step nw fun q ⟨⟨a, b, c, q1, q2⟩, q3⟩ => ?_
 obtain ⟨q, J13⟩ := q
 simp only at q1 q3
 subst q1
 have h15 := h14.ext (gathT bx) q3
 have b13 := (q3.blk B (by simp; omega)).trans b12
 generalize hwb : J12.next = wb at h14 h15 lB12 q3
 have lw : wb < J13.next := h15.lX wb (by simp)
 simp only [S20.cells]
 simp -implicitDefEqProofs only [Nat.reduceAdd, Nat.reduceMul, Nat.reduceLT, Int.reduceToNat, Int.reduceAdd, Int.reduceSub, Int.reduceMul, rsU, s_ldI, s_ldU, s_ldS, s_ldP, s_gtI, s_gtU, s_gtS, s_bleD, Nat.reduceLeDiff, decide_true, decide_false]
 generalize hJ : AH.put J13 wb _ = J14
 have b14 : J14.blk wb = some (.cells true 63 ((S20.new (Ds.map DO.ov)).cells a b c)) := by rw [<- hJ]; exact s_bs
 have b14B : J14.blk B = some (.cells true 51 [.i .u64 0, .i .u64 M8.t]) := by rw [<- hJ, s_bn (by omega)]; exact b13
 have h16 := h15.turn (gathT bx) (J' := J14) (K := [wb]) (X' := [wb, B]) ⟨by rw [<- hJ]; exact Nat.le_refl _, fun b hb hm => by rw [<- hJ]; exact s_bn (by simpa using hm)⟩ (by simp) (fun b hb => .inl hb)
 clear hJ
 have de : DocE Ds (fun _ => none) (T.flip (ff M.sp)) [] (S20.new (Ds.map DO.ov)) := DocE.new rfl
 have hDs : ∀ d ∈ Ds, d.P.length <= 15 /\ d.R.length <= 15 := fun d hd => (m.ok d hd).2
 have hot : T.top <= 1000 := by have := m.topb; omega
 have v0 : Ev1 bx eb sb nb lb pb mb wb B T.id T.top M8.t Ds 0 J14 := ⟨M8, S8, w8, _, _, _, _, _, _, _, a, b, c, h16, ev, de, q2, b14, b14B, by omega, Int.le_refl _, by show M8.t <= M8.t + 0; omega, Int.le_refl _, by show (0 : Int) <= _; omega, Nat.le_refl _, fw8.le (by omega) (Int.le_refl _)⟩
 have lp : ∀ (h61 : AH O) (r48 : List AV × AH O), h61.next = wb -> r48.2.next = B -> Ok (loopF (qa9 (sm, ms.length) (al, Ds.length) h61 qar qqw (some (.n eb, 0)) qq1 r48 qcz (some (.n sb, 0)) qsa qac qcp qnu) ([.i .i64 0], J14)) fun q => ∃ J', q = .inl ([], J') /\ Ev1 bx eb sb nb lb pb mb wb B T.id T.top M8.t Ds ms.length J' := by
  intro h61 r48 e61 e48
  refine Ok.count ms.length (fun k s => ∃ J', s = ([.i .i64 (k : Int)], J') /\ Ev1 bx eb sb nb lb pb mb wb B T.id T.top M8.t Ds k J') ?_ ?_ ⟨J14, rfl, v0⟩
  ·rintro k _ hk ⟨J', rfl, v⟩
   obtain ⟨x, hx⟩ : ∃ x, ms[k]? = some x := ⟨_, List.getElem?_eq_getElem hk⟩
   obtain ⟨b2, o2, rfl, l2⟩ := im.at hx
   refine (move_step v hot (by omega) hDs (by omega) (by omega) ha hk (hr x (List.mem_of_getElem? hx)) ⟨b2, o2, rfl, fun J => by rw [Nat.mul_one]; exact l2 O J⟩ e61 e48).mono ?_
   rintro _ ⟨J'', rfl, v'⟩
   exact ⟨J'', rfl, v'⟩
  ·rintro _ ⟨J', rfl, v⟩
   have i1 : decide ((ms.length : Int) < (ms.length : Int)) = false := decide_eq_false (by omega)
   simp -implicitDefEqProofs only [qa9, i1, Nat.reduceAdd, Nat.reduceMul, Nat.reduceLT, Int.reduceToNat, Int.reduceAdd, Int.reduceSub, Int.reduceMul, rsU, s_ldI, s_ldU, s_ldS, s_ldP, s_gtI, s_gtU, s_gtS, s_bleD, Nat.reduceLeDiff, decide_true, decide_false]
   exact Ok_some.2 ⟨J', rfl, v⟩
 refine Ok.bindS (lp _ _ hwb hB) ?_ (fun q hq => by obtain ⟨_, e, _⟩ := hq; cases e)
 rintro _ ⟨J15, e, v15⟩
 simp only [Sum.inl.injEq] at e
 subst e
 obtain ⟨M9, S9, w9, L9, T9, v9, hs9, Z9, now9, s9, a9, b9, c9, h17, ev9, de9, at9, hwb9, htb9, _, _, _, _, _, hl9, fw9⟩ := v15
 have gx9 := h17.j
 obtain ⟨ag, hbx9, _⟩ := h17.j
 simp only [S20.cells] at hwb9
 have eqm : ((hs9.length : Int) == (s9.mv.length : Int)) = true := by rw [de9.mv]; simp
 simp -implicitDefEqProofs only [hbx9, hwb9, hbx, bne, eqm, Bool.not_true, Nat.reduceAdd, Nat.reduceMul, Nat.reduceLT, Int.reduceToNat, Int.reduceAdd, Int.reduceSub, Int.reduceMul, rsU, s_ldI, s_ldU, s_ldS, s_ldP, s_gtI, s_gtU, s_gtS, s_bleD, Nat.reduceLeDiff, decide_true, decide_false]
 refine Ok.bindS (met_loop gx9 de9 at9 hwb9 (by omega) (by first | exact hbx | rfl) (by first | exact hwb | rfl)) ?_ (fun q hq => by cases hq)
 rintro _ e
 simp only [Sum.inl.injEq] at e
 subst e
 simp -implicitDefEqProofs only [Nat.reduceAdd, Nat.reduceMul, Nat.reduceLT, Int.reduceToNat, Int.reduceAdd, Int.reduceSub, Int.reduceMul, rsU, s_ldI, s_ldU, s_ldS, s_ldP, s_gtI, s_gtU, s_gtS, s_bleD, Nat.reduceLeDiff, decide_true, decide_false]
 refine Ok.bindS (find_loop (gathT bx) h17 fw9 (by omega) ev9 hDs (by omega) de9 at9 hwb9 ha (by first | exact hwb | rfl)) ?_ (fun q hq => by obtain ⟨_, e, _⟩ := hq; cases e)
 rintro _ ⟨J16, e, M16, h18, fw16⟩
 simp only [Sum.inl.injEq] at e
 subst e
 simp -implicitDefEqProofs only [Nat.reduceAdd, Nat.reduceMul, Nat.reduceLT, Int.reduceToNat, Int.reduceAdd, Int.reduceSub, Int.reduceMul, rsU, s_ldI, s_ldU, s_ldS, s_ldP, s_gtI, s_gtU, s_gtS, s_bleD, Nat.reduceLeDiff, decide_true, decide_false]
 refine Ok.step (find_nil (gathT bx) h18 (fw16.far h18.t.s.l.p.mi.ok (by omega))) fun q ⟨q4, q5⟩ => ?_
 obtain ⟨q, J17⟩ := q
 simp only at q4
 subst q4
 simp -implicitDefEqProofs only [z0, Nat.reduceAdd, Nat.reduceMul, Nat.reduceLT, Int.reduceToNat, Int.reduceAdd, Int.reduceSub, Int.reduceMul, rsU, s_ldI, s_ldU, s_ldS, s_ldP, s_gtI, s_gtU, s_gtS, s_bleD, Nat.reduceLeDiff, decide_true, decide_false]
 exact Ok_some.2 rfl
end Go.Abs.Tryz
