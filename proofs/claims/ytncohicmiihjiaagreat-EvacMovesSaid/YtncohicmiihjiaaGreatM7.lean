/-
  Layers 1 and 7: wide numbers and meters, as they are run. No conditions.
-/
import Derived.Test.YtncohicmiihjiaaGreatS9e
import Derived.Test.YtncohicmiihjiaaGreatAbsSl
set_option linter.unusedVariables false
set_option linter.unusedSimpArgs false
set_option linter.constructorNameAsVariable false
set_option linter.unusedSimpArgs false
namespace Go.Abs.Tryz
open Go Go.Abs
variable {O : Type}
def wcs (w : Int) : List AV := [.i .u64 (w / 18446744073709551616), .i .u64 (w % 18446744073709551616)]
theorem of_ok {n : Int} {J : AH O} (h : 0 <= n /\ n < 18446744073709551616) : Ok (qfz [.i .u64 n] J) fun r => r.1 = .agg (wcs n) /\ Ext J r.2 := by
 simp (maxSteps := 2000000) -implicitDefEqProofs (disch := (first | omega | rfl | assumption | (simp only [rsD]; first | omega | assumption))) only [qfz, qfy, Nat.reduceAdd, Nat.reduceMul, Nat.reduceLT, Int.reduceToNat, Int.reduceAdd, Int.reduceSub, Int.reduceMul, rsU, rsC]
 refine Ok_some.2 ⟨?_, (ext_of (by simp only [put_next, bump_next, kill_next]; omega) (fun b hb => by simp -implicitDefEqProofs (disch := (first | omega | rfl | assumption | (simp only [rsD]; first | omega | assumption))) only [s_bn, s_kn, bump_blk, s_ext]))⟩
 have e1 : n / 18446744073709551616 = 0 := by omega
 have e2 : n % 18446744073709551616 = n := by omega
 simp only [wcs, e1, e2]
theorem add64_eq {x y c : Int} {J : AH O} (hx : 0 <= x) (hy : 0 <= y) (hc : 0 <= c /\ c <= 1) : bits_Add64 [.i .u64 x, .i .u64 y, .i .u64 c] J = some (.tup [.i .u64 ((x + y + c) % 18446744073709551616), .i .u64 ((x + y + c) / 18446744073709551616)], J) := by
 simp (maxSteps := 2000000) -implicitDefEqProofs (disch := (first | omega | rfl | assumption | (simp only [rsD]; first | omega | assumption))) only [bits_Add64, Nat.reduceAdd, Nat.reduceMul, Nat.reduceLT, Int.reduceToNat, Int.reduceAdd, Int.reduceSub, Int.reduceMul, rsU, rsC]
theorem wadd_ok {a b : Int} {J : AH O} (h1 : 0 <= a) (h2 : 0 <= b) (h : a + b < 340282366920938463463374607431768211456) :
  Ok (qf9 [.agg (wcs a), .agg (wcs b)] J) fun r => r.1 = .tup [.agg (wcs (a + b)), .b true] /\ Ext J r.2 := by
 simp (maxSteps := 2000000) -implicitDefEqProofs (disch := (first | omega | rfl | assumption | (simp only [rsD]; first | omega | assumption))) only [qf9, qf8, wcs, Nat.reduceAdd, Nat.reduceMul, Nat.reduceLT, Int.reduceToNat, Int.reduceAdd, Int.reduceSub, Int.reduceMul, rsU, rsC]
 rw [add64_eq (by omega) (by omega) (by omega)]
 simp (maxSteps := 2000000) -implicitDefEqProofs (disch := (first | omega | rfl | assumption | (simp only [rsD]; first | omega | assumption))) only [Nat.reduceAdd, Nat.reduceMul, Nat.reduceLT, Int.reduceToNat, Int.reduceAdd, Int.reduceSub, Int.reduceMul, rsU, rsC]
 rw [add64_eq (by omega) (by omega) (by omega)]
 simp (maxSteps := 2000000) -implicitDefEqProofs (disch := (first | omega | rfl | assumption | (simp only [rsD]; first | omega | assumption))) only [Nat.reduceAdd, Nat.reduceMul, Nat.reduceLT, Int.reduceToNat, Int.reduceAdd, Int.reduceSub, Int.reduceMul, rsU, rsC]
 refine Ok_some.2 ⟨?_, (ext_of (by simp only [put_next, bump_next, kill_next]; omega) (fun b hb => by simp -implicitDefEqProofs (disch := (first | omega | rfl | assumption | (simp only [rsD]; first | omega | assumption))) only [s_bn, s_kn, bump_blk, s_ext]))⟩
 have e1 : (a / 18446744073709551616 + b / 18446744073709551616 + (a % 18446744073709551616 + b % 18446744073709551616 + 0) / 18446744073709551616) % 18446744073709551616 = (a + b) / 18446744073709551616 := by omega
 have e2 : (a % 18446744073709551616 + b % 18446744073709551616 + 0) % 18446744073709551616 = (a + b) % 18446744073709551616 := by omega
 rw [e1, e2]
structure Met where
 r : Int
 w : Int
 held : Int
 high : Int
def Met.cells (m : Met) : List AV := [.i .u64 (m.r / 18446744073709551616), .i .u64 (m.r % 18446744073709551616), .i .u64 (m.w / 18446744073709551616), .i .u64 (m.w % 18446744073709551616), .i .i64 m.held, .i .i64 m.high]
structure MetAt (J : AH O) (b : Nat) (m : Met) : Prop where
 lt : b < J.next
 blk : ∃ el, J.blk b = some (.cells true el m.cells)
structure Met.ok (m : Met) : Prop where
 r : 0 <= m.r /\ m.r < 170141183460469231731687303715884105728
 w : 0 <= m.w /\ m.w < 170141183460469231731687303715884105728
 held : 0 <= m.held /\ m.held <= 281474976710656
 high : m.held <= m.high /\ m.high <= 281474976710656
def Met.zero : Met := ⟨0, 0, 0, 0⟩
theorem MetAt.of {J J' : AH O} {b : Nat} {m : Met} (h : MetAt J b m) (hn : J.next <= J'.next) (hb : J'.blk b = J.blk b) : MetAt J' b m := ⟨Nat.lt_of_lt_of_le h.lt hn, by rw [hb]; exact h.blk⟩
theorem MetAt.chg {J J' : AH O} {L : List Nat} {b : Nat} {m : Met} (h : MetAt J b m) (hc : Chg L J J') (hb : b ∉ L) : MetAt J' b m := h.of hc.next (hc.blk b h.lt hb)
def Met.hold (m : Met) (n : Int) : Met := { m with held := m.held + n, high := max m.high (m.held + n) }
def Met.free (m : Met) (n : Int) : Met := { m with held := m.held - n }
theorem hold_ok {J : AH O} {b : Nat} {m : Met} {n : Int} (h : MetAt J b m) (hm : m.ok) (hn : 0 <= n) (hn' : m.held + n <= 281474976710656) :
  Ok (qbu [.p (some (.n b, 0)), .i .i64 n] J) fun r => r.1 = .i .i64 0 /\ MetAt r.2 b (m.hold n) /\ Chg [b] J r.2 := by
 obtain ⟨el, hb⟩ := h.blk
 have hlt := h.lt
 have h1 := hm.held
 have h2 := hm.high
 have hmax : (if m.held + n > m.high then m.held + n else m.high) = max m.high (m.held + n) := by
  split <;> omega
 simp (maxSteps := 2000000) -implicitDefEqProofs (disch := (first | omega | rfl | assumption | (simp only [rsD]; first | omega | assumption))) only [qbu, qbt, qbp, qbo, hb, Met.cells, Nat.reduceAdd, Nat.reduceMul, Nat.reduceLT, Int.reduceToNat, Int.reduceAdd, Int.reduceSub, Int.reduceMul, rsU, rsC]
 refine Ok_some.2 ⟨rfl, ⟨hlt, el, ?_⟩, ((Chg.refl _ _).put (.inl (by simp)) _)⟩
 simp only [s_bs, Met.cells, Met.hold, hmax]
theorem mnew_ok {J : AH O} : Ok (qbf [] J) fun r => r.1 = .p (some (.n J.next, 0)) /\ MetAt r.2 J.next Met.zero /\ Ext J r.2 /\ r.2.next = J.next + 1 := by
 simp (maxSteps := 2000000) -implicitDefEqProofs (disch := (first | omega | rfl | assumption | (simp only [rsD]; first | omega | assumption))) only [qbf, qbe, Nat.reduceAdd, Nat.reduceMul, Nat.reduceLT, Int.reduceToNat, Int.reduceAdd, Int.reduceSub, Int.reduceMul, rsU, rsC]
 exact Ok_some.2 ⟨rfl, ⟨by simp, _, by simp only [s_bs]; rfl⟩, (ext_of (by simp only [put_next, bump_next, kill_next]; omega) (fun b hb => by simp -implicitDefEqProofs (disch := (first | omega | rfl | assumption | (simp only [rsD]; first | omega | assumption))) only [s_bn, s_kn, bump_blk, s_ext])), rfl⟩
theorem step_r_ok {J : AH O} {b : Nat} {m : Met} {n : Int} (h : MetAt J b m) (h1 : 0 <= m.r /\ m.r < 170141183460469231731687303715884105728) (hn : 1 <= n) (hn' : n <= 9223372036854775807) :
  Ok (qge [.p (some (.n b, 0)), .i .i64 0, .i .i64 n] J) fun r => r.1 = .tup [] /\ MetAt r.2 b { m with r := m.r + n } /\ Chg [b] J r.2 := by
 obtain ⟨el, hb⟩ := h.blk
 have hlt := h.lt
 simp (maxSteps := 2000000) -implicitDefEqProofs (disch := (first | omega | rfl | assumption | (simp only [rsD]; first | omega | assumption))) only [qge, qgd, hb, Met.cells, Int.toNat_zero, Nat.zero_mul, Nat.reduceAdd, Nat.reduceMul, Nat.reduceLT, Int.reduceToNat, Int.reduceAdd, Int.reduceSub, Int.reduceMul, rsU, rsC]
 refine Ok.step (of_ok (by omega)) fun r ⟨g1, g2⟩ => ?_
 obtain ⟨q, J1⟩ := r
 simp only at g1 g2
 subst g1
 have hb1 : J1.blk b = _ := (g2.blk b hlt).trans hb
 simp (maxSteps := 2000000) -implicitDefEqProofs (disch := (first | omega | rfl | assumption | (simp only [rsD]; first | omega | assumption))) only [hb1, wcs, Met.cells, Int.toNat_zero, Nat.zero_mul, s_chk, Nat.reduceAdd, Nat.reduceMul, Nat.reduceLT, Int.reduceToNat, Int.reduceAdd, Int.reduceSub, Int.reduceMul, rsU, rsC]
 have := wadd_ok (J := J1) h1.1 (show 0 <= n by omega) (by omega)
 simp only [wcs] at this
 refine Ok.step this fun r ⟨g3, g4⟩ => ?_
 obtain ⟨q, J2⟩ := r
 simp only at g3 g4
 subst g3
 have hb2 : J2.blk b = _ := (g4.blk b (Nat.lt_of_lt_of_le hlt g2.next)).trans hb1
 simp (maxSteps := 2000000) -implicitDefEqProofs (disch := (first | omega | rfl | assumption | (simp only [rsD]; first | omega | assumption))) only [hb2, Met.cells, Int.toNat_zero, Nat.zero_mul, Nat.reduceAdd, Nat.reduceMul, Nat.reduceLT, Int.reduceToNat, Int.reduceAdd, Int.reduceSub, Int.reduceMul, rsU, rsC]
 exact Ok_some.2 ⟨rfl, ⟨by simp only [put_next]; have := g2.next; have := g4.next; omega, el, by simp only [s_bs]; rfl⟩, (g2.trans g4).chg.put (.inl (by simp)) _⟩
theorem step_w_ok {J : AH O} {b : Nat} {m : Met} {n : Int} (h : MetAt J b m) (h1 : 0 <= m.w /\ m.w < 170141183460469231731687303715884105728) (hn : 1 <= n) (hn' : n <= 9223372036854775807) :
  Ok (qge [.p (some (.n b, 0)), .i .i64 1, .i .i64 n] J) fun r => r.1 = .tup [] /\ MetAt r.2 b { m with w := m.w + n } /\ Chg [b] J r.2 := by
 obtain ⟨el, hb⟩ := h.blk
 have hlt := h.lt
 have t1 : (1 : Int).toNat = 1 := rfl
 simp (maxSteps := 2000000) -implicitDefEqProofs (disch := (first | omega | rfl | assumption | (simp only [rsD]; first | omega | assumption))) only [qge, qgd, hb, Met.cells, t1, Nat.one_mul, Nat.reduceAdd, Nat.reduceMul, Nat.reduceLT, Int.reduceToNat, Int.reduceAdd, Int.reduceSub, Int.reduceMul, rsU, rsC]
 refine Ok.step (of_ok (by omega)) fun r ⟨g1, g2⟩ => ?_
 obtain ⟨q, J1⟩ := r
 simp only at g1 g2
 subst g1
 have hb1 : J1.blk b = _ := (g2.blk b hlt).trans hb
 simp (maxSteps := 2000000) -implicitDefEqProofs (disch := (first | omega | rfl | assumption | (simp only [rsD]; first | omega | assumption))) only [hb1, wcs, Met.cells, t1, Nat.one_mul, s_chk, Nat.reduceAdd, Nat.reduceMul, Nat.reduceLT, Int.reduceToNat, Int.reduceAdd, Int.reduceSub, Int.reduceMul, rsU, rsC]
 have := wadd_ok (J := J1) h1.1 (show 0 <= n by omega) (by omega)
 simp only [wcs] at this
 refine Ok.step this fun r ⟨g3, g4⟩ => ?_
 obtain ⟨q, J2⟩ := r
 simp only at g3 g4
 subst g3
 have hb2 : J2.blk b = _ := (g4.blk b (Nat.lt_of_lt_of_le hlt g2.next)).trans hb1
 simp (maxSteps := 2000000) -implicitDefEqProofs (disch := (first | omega | rfl | assumption | (simp only [rsD]; first | omega | assumption))) only [hb2, Met.cells, t1, Nat.one_mul, Nat.reduceAdd, Nat.reduceMul, Nat.reduceLT, Int.reduceToNat, Int.reduceAdd, Int.reduceSub, Int.reduceMul, rsU, rsC]
 exact Ok_some.2 ⟨rfl, ⟨by simp only [put_next]; have := g2.next; have := g4.next; omega, el, by simp only [s_bs]; rfl⟩, (g2.trans g4).chg.put (.inl (by simp)) _⟩
theorem step_none {J : AH O} {b : Nat} {k n : Int} (hn : n < 1) : qge [.p (some (.n b, 0)), .i .i64 k, .i .i64 n] J = some (.tup [], J) := by
 have e : ∀ c : Bool, (bif c then true else true) = true := by decide
 simp (maxSteps := 2000000) -implicitDefEqProofs (disch := (first | omega | rfl | assumption | (simp only [rsD]; first | omega | assumption))) only [qge, qgd, e, Nat.reduceAdd, Nat.reduceMul, Nat.reduceLT, Int.reduceToNat, Int.reduceAdd, Int.reduceSub, Int.reduceMul, rsU, rsC]
theorem ofr_ok {J : AH O} {b : Nat} {m : Met} (h : MetAt J b m) : Ok (qrl [.p (some (.n b, 0)), .i .i64 0] J) fun r => r.1 = .agg (wcs m.r) /\ Ext J r.2 := by
 obtain ⟨el, hb⟩ := h.blk
 have hlt := h.lt
 simp (maxSteps := 2000000) -implicitDefEqProofs (disch := (first | omega | rfl | assumption | (simp only [rsD]; first | omega | assumption))) only [qrl, qrk, hb, Met.cells, Int.toNat_zero, Nat.zero_mul, Nat.reduceAdd, Nat.reduceMul, Nat.reduceLT, Int.reduceToNat, Int.reduceAdd, Int.reduceSub, Int.reduceMul, rsU, rsC]
 exact Ok_some.2 ⟨rfl, (ext_of (by simp only [put_next, bump_next, kill_next]; omega) (fun b hb => by simp -implicitDefEqProofs (disch := (first | omega | rfl | assumption | (simp only [rsD]; first | omega | assumption))) only [s_bn, s_kn, bump_blk, s_ext]))⟩
theorem ofw_ok {J : AH O} {b : Nat} {m : Met} (h : MetAt J b m) : Ok (qrl [.p (some (.n b, 0)), .i .i64 1] J) fun r => r.1 = .agg (wcs m.w) /\ Ext J r.2 := by
 obtain ⟨el, hb⟩ := h.blk
 have hlt := h.lt
 have t1 : (1 : Int).toNat = 1 := rfl
 simp (maxSteps := 2000000) -implicitDefEqProofs (disch := (first | omega | rfl | assumption | (simp only [rsD]; first | omega | assumption))) only [qrl, qrk, hb, Met.cells, t1, Nat.one_mul, Nat.reduceAdd, Nat.reduceMul, Nat.reduceLT, Int.reduceToNat, Int.reduceAdd, Int.reduceSub, Int.reduceMul, rsU, rsC]
 exact Ok_some.2 ⟨rfl, (ext_of (by simp only [put_next, bump_next, kill_next]; omega) (fun b hb => by simp -implicitDefEqProofs (disch := (first | omega | rfl | assumption | (simp only [rsD]; first | omega | assumption))) only [s_bn, s_kn, bump_blk, s_ext]))⟩
theorem steps_ok {J : AH O} {b : Nat} {m : Met} (h : MetAt J b m) (hm : m.ok) : Ok (qrq [.p (some (.n b, 0))] J) fun r => r.1 = .agg (wcs (m.r + m.w)) /\ Ext J r.2 := by
 have hlt := h.lt
 have h1 := hm.r
 have h2 := hm.w
 simp (maxSteps := 2000000) -implicitDefEqProofs (disch := (first | omega | rfl | assumption | (simp only [rsD]; first | omega | assumption))) only [qrq, qrp, Nat.reduceAdd, Nat.reduceMul, Nat.reduceLT, Int.reduceToNat, Int.reduceAdd, Int.reduceSub, Int.reduceMul, rsU, rsC]
 generalize hs : ((J.bump 1).put J.next (.cells true _ [.i .u64 0, .i .u64 0])).bump 1 = J1
 have e1 : Ext J J1 := by rw [<- hs]; exact (ext_of (by simp only [put_next, bump_next, kill_next]; omega) (fun b hb => by simp -implicitDefEqProofs (disch := (first | omega | rfl | assumption | (simp only [rsD]; first | omega | assumption))) only [s_bn, s_kn, bump_blk, s_ext]))
 have n1 : J1.next = J.next + 1 + 1 := by rw [<- hs]; rfl
 have hM : MetAt J1 b m := h.of e1.next (e1.blk b hlt)
 have b1 : ∃ el, J1.blk J.next = some (.cells true el [.i .u64 0, .i .u64 0]) := by rw [<- hs]; exact ⟨_, by simp only [bump_blk, s_bs]; rfl⟩
 clear hs
 obtain ⟨el, b1⟩ := b1
 refine Ok.step (ofr_ok hM) fun r ⟨g1, g2⟩ => ?_
 obtain ⟨q, J2⟩ := r
 simp only at g1 g2
 subst g1
 have hM2 : MetAt J2 b m := hM.of g2.next (g2.blk b hM.lt)
 simp (maxSteps := 2000000) -implicitDefEqProofs (disch := (first | omega | rfl | assumption | (simp only [rsD]; first | omega | assumption))) only [wcs, Nat.reduceAdd, Nat.reduceMul, Nat.reduceLT, Int.reduceToNat, Int.reduceAdd, Int.reduceSub, Int.reduceMul, rsU, rsC]
 refine Ok.step (ofw_ok hM2) fun r ⟨g3, g4⟩ => ?_
 obtain ⟨q, J3⟩ := r
 simp only at g3 g4
 subst g3
 simp (maxSteps := 2000000) -implicitDefEqProofs (disch := (first | omega | rfl | assumption | (simp only [rsD]; first | omega | assumption))) only [wcs, Nat.reduceAdd, Nat.reduceMul, Nat.reduceLT, Int.reduceToNat, Int.reduceAdd, Int.reduceSub, Int.reduceMul, rsU, rsC]
 have := wadd_ok (J := J3) h1.1 h2.1 (by omega)
 simp only [wcs] at this
 refine Ok.step this fun r ⟨g5, g6⟩ => ?_
 obtain ⟨q, J4⟩ := r
 simp only at g5 g6
 subst g5
 have e4 : Ext J1 J4 := (g2.trans g4).trans g6
 have n4 := e4.next
 have b4 : J4.blk J.next = _ := (e4.blk _ (by omega)).trans b1
 simp (maxSteps := 2000000) -implicitDefEqProofs (disch := (first | omega | rfl | assumption | (simp only [rsD]; first | omega | assumption))) only [b4, Nat.reduceAdd, Nat.reduceMul, Nat.reduceLT, Int.reduceToNat, Int.reduceAdd, Int.reduceSub, Int.reduceMul, rsU, rsC]
 refine Ok_some.2 ⟨rfl, ?_⟩
 have E := e1.trans e4
 exact ext_of (by simp only [put_next]; exact E.next) fun b hb => by
  simp -implicitDefEqProofs (disch := omega) only [s_bn]
  exact E.blk b hb
end Go.Abs.Tryz
namespace Go.Abs.Tryz
open Go Go.Abs
variable {O : Type}
def u64s (l : List Int) : List AV := l.map (AV.i .u64)
theorem u64s_len (l : List Int) : (u64s l).length = l.length := by simp [u64s]
theorem u64s_get {l : List Int} {i : Nat} {x : Int} (h : l[i]? = some x) : (u64s l)[i]? = some (.i .u64 x) := by simp [u64s, h]
theorem u64s_rep (n : Nat) : (List.replicate n [AV.i .u64 0]).flatten = u64s (List.replicate n 0) := by
 induction n with
 | zero => rfl
 | succ n ih => simp only [List.replicate_succ, List.flatten_cons, u64s, List.map_cons] at ih ⊢; rw [ih]; rfl
structure Sp where
 a : SA
 op : Bool
 ws : List Int
def Sp.cells (s : Sp) : List AV := [.sl s.a s.ws.length, .b s.op]
theorem Sp.len (s : Sp) : s.cells.length = 2 := rfl
def Sp.sl (s : Sp) : SA × List AV := (s.a, u64s s.ws)
def Sp.v (s : Sp) : Bool × List Int := (s.op, s.ws)
structure MemS where
 met : Met
 sp : List (Bool × List Int)
 low : Int
 count : Int
structure MemC (J : AH O) (mb tb : Nat) (sa : SA) (L : List Sp) (met : Met) (low count : Int) : Prop where
 m : ∃ el, J.blk mb = some (.cells true el [.p (some (.n tb, 0)), .sl sa L.length, .i .i64 low, .i .i64 count])
 mlt : mb < J.next
 met : MetAt J tb met
 slc : OwnS J T_mem_space 2 sa L.length (L.flatMap Sp.cells)
 sls : Sls J T_uint64 1 (L.map Sp.sl)
 ne : mb ≠ tb
 n1 : ∀ b ∈ SA.bk sa, b ≠ mb /\ b ≠ tb
 n2 : ∀ b ∈ sbk (L.map Sp.sl), b ≠ mb /\ b ≠ tb /\ b ∉ SA.bk sa
def memF (mb tb : Nat) (sa : SA) (L : List Sp) : List Nat := mb :: tb :: (SA.bk sa ++ sbk (L.map Sp.sl))
def MemAt (J : AH O) (mb : Nat) (F : List Nat) (M : MemS) : Prop := ∃ tb sa L, F = memF mb tb sa L /\ M.sp = L.map Sp.v /\ MemC J mb tb sa L M.met M.low M.count
theorem MemC.of {J J' : AH O} {mb tb : Nat} {sa : SA} {L : List Sp} {met : Met} {low count : Int} (h : MemC J mb tb sa L met low count) (hn : J.next <= J'.next) (hb : ∀ b ∈ memF mb tb sa L, J'.blk b = J.blk b) : MemC J' mb tb sa L met low count where
 m := by rw [hb mb (by simp [memF])]; exact h.m
 mlt := Nat.lt_of_lt_of_le h.mlt hn
 met := h.met.of hn (hb tb (by simp [memF]))
 slc := h.slc.of hn fun b hb' => hb b (by simp [memF, hb'])
 sls := h.sls.of hn fun b hb' => hb b (by simp [memF, hb'])
 ne := h.ne
 n1 := h.n1
 n2 := h.n2
theorem MemC.flt {J : AH O} {mb tb : Nat} {sa : SA} {L : List Sp} {met : Met} {low count : Int} (h : MemC J mb tb sa L met low count) : ∀ b ∈ memF mb tb sa L, b < J.next := fun b hb => by
 simp only [memF, List.mem_cons, List.mem_append] at hb
 rcases hb with rfl | rfl | hb | hb
 ·exact h.mlt
 ·exact h.met.lt
 ·exact h.slc.lt b hb
 ·exact h.sls.lt b hb
theorem MemAt.lt {J : AH O} {mb : Nat} {F : List Nat} {M : MemS} (h : MemAt J mb F M) : ∀ b ∈ F, b < J.next := by
 obtain ⟨tb, sa, L, rfl, _, hC⟩ := h
 exact hC.flt
theorem MemAt.chg {J J' : AH O} {mb : Nat} {F L : List Nat} {M : MemS} (h : MemAt J mb F M) (hc : Chg L J J') (hd : ∀ b ∈ F, b ∉ L) : MemAt J' mb F M := by
 have hlt := h.lt
 obtain ⟨tb, sa, L', rfl, e, hC⟩ := h
 exact ⟨tb, sa, L', rfl, e, hC.of hc.next fun b hb => hc.blk b (hlt b hb) (hd b hb)⟩
theorem MemAt.ext {J J' : AH O} {mb : Nat} {F : List Nat} {M : MemS} (h : MemAt J mb F M) (hc : Ext J J') : MemAt J' mb F M := h.chg (L := []) hc.chg (by simp)
def Fp (F F' : List Nat) (J : AH O) : Prop := ∀ b ∈ F', b ∈ F ∨ J.next <= b
theorem Fp.refl (F : List Nat) (J : AH O) : Fp F F J := fun _ h => .inl h
structure MemS.ok (M : MemS) : Prop where
 met : M.met.ok
 low : 0 <= M.low /\ M.low <= M.sp.length
 below : ∀ i : Nat, (i : Int) < M.low -> ∀ s, M.sp[i]? = some s -> s.1 = true
 count : M.count = (M.sp.countP (·.1) : Nat)
 few : M.sp.length <= 262144
 size : ∀ s ∈ M.sp, s.2.length <= 4194304
 shut : ∀ s ∈ M.sp, s.1 = false -> s.2 = []
 held : M.met.held = (((M.sp.map fun s => s.2.length).sum : Nat) : Int)
theorem sum_le {l : List Nat} {c : Nat} (h : ∀ x ∈ l, x <= c) : l.sum <= l.length * c := by
 induction l with
 | nil => simp
 | cons x l ih =>
  have := ih fun y hy => h y (List.mem_cons_of_mem _ hy)
  have := h x List.mem_cons_self
  simp only [List.sum_cons, List.length_cons, Nat.succ_mul]; omega
theorem MemS.ok.bound {M : MemS} (h : M.ok) : M.met.held <= 1099511627776 := by
 rw [h.held]
 have h1 := sum_le (l := M.sp.map fun s => s.2.length) (c := 4194304) (by
  intro x hx
  obtain ⟨s, hs, rfl⟩ := List.mem_map.1 hx
  exact h.size s hs)
 simp only [List.length_map] at h1
 have := h.few
 omega
def isOp (l : List (Bool × List Int)) (id : Int) : Prop := 0 <= id /\ ∃ w, l[id.toNat]? = some (true, w)
theorem at_some {J : AH O} {mb tb : Nat} {sa : SA} {L : List Sp} {met : Met} {low count id : Int} (h : MemC J mb tb sa L met low count) (h0 : 0 <= id) {s : Sp} (hs : L[id.toNat]? = some s) (ho : s.op = true) :
  ∃ k, sa = .loc (.n k) 0 2 /\ qfa [.p (some (.n mb, 0)), .i .i64 id] J = some (.p (some (.n k, id.toNat * 2)), J) := by
 have hlt := (List.getElem?_eq_some_iff.1 hs).1
 obtain ⟨k, rfl, hk, _⟩ := h.slc.loc (by omega)
 obtain ⟨el, hm⟩ := h.m
 have g1 := fm_get' Sp.len (j := 1) (by omega) hs
 simp only [Sp.cells, List.getElem?_cons_succ, List.getElem?_cons_zero, ho] at g1
 exact ⟨k, rfl, by simp (maxSteps := 2000000) -implicitDefEqProofs (disch := (first | omega | rfl | assumption | (simp only [rsD]; first | omega | assumption))) only [qfa, qe9, hm, hk, g1, Nat.reduceAdd, Nat.reduceMul, Nat.reduceLT, Int.reduceToNat, Int.reduceAdd, Int.reduceSub, Int.reduceMul, rsU, rsC]⟩
theorem at_none {J : AH O} {mb tb : Nat} {sa : SA} {L : List Sp} {met : Met} {low count id : Int} (h : MemC J mb tb sa L met low count) (hn : ¬ isOp (L.map Sp.v) id) :
  qfa [.p (some (.n mb, 0)), .i .i64 id] J = some (.p none, J) := by
 obtain ⟨el, hm⟩ := h.m
 by_cases h0 : id < 0
 ·simp (maxSteps := 2000000) -implicitDefEqProofs (disch := (first | omega | rfl | assumption | (simp only [rsD]; first | omega | assumption))) only [qfa, qe9, hm, Nat.reduceAdd, Nat.reduceMul, Nat.reduceLT, Int.reduceToNat, Int.reduceAdd, Int.reduceSub, Int.reduceMul, rsU, rsC]
 ·by_cases h1 : id >= (L.length : Int)
  ·simp (maxSteps := 2000000) -implicitDefEqProofs (disch := (first | omega | rfl | assumption | (simp only [rsD]; first | omega | assumption))) only [qfa, qe9, hm, Nat.reduceAdd, Nat.reduceMul, Nat.reduceLT, Int.reduceToNat, Int.reduceAdd, Int.reduceSub, Int.reduceMul, rsU, rsC]
  ·have hlt : id.toNat < L.length := by omega
   obtain ⟨k, rfl, hk, _⟩ := h.slc.loc (by omega)
   have hs := List.getElem?_eq_getElem hlt
   have hop : L[id.toNat].op = false := by
    cases ho : L[id.toNat].op with
    | false => rfl
    | true => exact absurd ⟨by omega, L[id.toNat].ws, by rw [List.getElem?_map, hs, Option.map_some, Sp.v, ho]⟩ hn
   have g1 := fm_get' Sp.len (j := 1) (by omega) hs
   simp only [Sp.cells, List.getElem?_cons_succ, List.getElem?_cons_zero, hop] at g1
   simp (maxSteps := 2000000) -implicitDefEqProofs (disch := (first | omega | rfl | assumption | (simp only [rsD]; first | omega | assumption))) only [qfa, qe9, hm, hk, g1, Nat.reduceAdd, Nat.reduceMul, Nat.reduceLT, Int.reduceToNat, Int.reduceAdd, Int.reduceSub, Int.reduceMul, rsU, rsC]
def MemS.new : MemS := ⟨Met.zero, [], 0, 0⟩
theorem memNew_ok {J : AH O} : Ok (qbk [] J) fun r => ∃ F, r.1 = .p (some (.n J.next, 0)) /\ MemAt r.2 J.next F MemS.new /\ Ext J r.2 /\ ∀ b ∈ F, J.next <= b := by
 simp (maxSteps := 2000000) -implicitDefEqProofs (disch := (first | omega | rfl | assumption | (simp only [rsD]; first | omega | assumption))) only [qbk, qbj, Nat.reduceAdd, Nat.reduceMul, Nat.reduceLT, Int.reduceToNat, Int.reduceAdd, Int.reduceSub, Int.reduceMul, rsU, rsC]
 refine Ok.step mnew_ok fun r ⟨g1, g2, g3, g4⟩ => ?_
 obtain ⟨q, J1⟩ := r
 simp only at g1 g2 g3 g4
 subst g1
 simp only [bump_next] at g2 g4
 simp (maxSteps := 2000000) -implicitDefEqProofs (disch := (first | omega | rfl | assumption | (simp only [rsD]; first | omega | assumption))) only [Nat.reduceAdd, Nat.reduceMul, Nat.reduceLT, Int.reduceToNat, Int.reduceAdd, Int.reduceSub, Int.reduceMul, rsU, rsC]
 have e0 : Ext J (J.bump 1) := (Ext.refl J).bump 1
 refine Ok_some.2 ⟨_, rfl, ⟨_, .nil, [], rfl, rfl, ⟨⟨_, by simp only [s_bs]; rfl⟩, by simp; omega, ?_, OwnS.nil _ _ _, Sls.nil _ _ _, ?_, ?_, ?_⟩⟩, (e0.trans g3).put (Nat.le_refl _) _, ?_⟩
 ·exact g2.of (Nat.le_refl _) (by rw [s_bn (by omega)])
 ·omega
 ·simp [SA.bk]
 ·simp [sbk]
 ·simp [memF, SA.bk, sbk]
theorem size_ok {J : AH O} {mb : Nat} {F : List Nat} {M : MemS} {id : Int} {w : List Int} (h : MemAt J mb F M) (h0 : 0 <= id) (hw : M.sp[id.toNat]? = some (true, w)) : qih [.p (some (.n mb, 0)), .i .i64 id] J = some (.tup [.i .i64 (w.length : Int), .i .i64 0], J) := by
 obtain ⟨tb, sa, L, rfl, e, hC⟩ := h
 rw [e, List.getElem?_map] at hw
 obtain ⟨s, hs, hsv⟩ := Option.map_eq_some_iff.1 hw
 simp only [Sp.v, Prod.mk.injEq] at hsv
 obtain ⟨ho, rfl⟩ := hsv
 obtain ⟨k, rfl, ha⟩ := at_some hC h0 hs ho
 obtain ⟨k', e1, hk, _⟩ := hC.slc.loc (by have := (List.getElem?_eq_some_iff.1 hs).1; omega)
 cases e1
 have g0 := fm_get' Sp.len (j := 0) (by omega) hs
 simp only [Sp.cells, List.getElem?_cons_zero, Nat.add_zero] at g0
 simp (maxSteps := 2000000) -implicitDefEqProofs (disch := (first | omega | rfl | assumption | (simp only [rsD]; first | omega | assumption))) only [qih, qig, ha, hk, g0, Nat.reduceAdd, Nat.reduceMul, Nat.reduceLT, Int.reduceToNat, Int.reduceAdd, Int.reduceSub, Int.reduceMul, rsU, rsC]
theorem MemC.at {J : AH O} {mb tb : Nat} {sa : SA} {L : List Sp} {met : Met} {low count : Int} (h : MemC J mb tb sa L met low count) {i : Nat} {s : Sp} (hs : L[i]? = some s) :
  ∃ k, sa = .loc (.n k) 0 2 /\ J.blk k = some (.cells true T_mem_space (L.flatMap Sp.cells)) /\ k < J.next /\ (L.flatMap Sp.cells)[i * 2]? = some (.sl s.a s.ws.length) /\ OwnS J T_uint64 1 s.a s.ws.length (u64s s.ws) := by
 have hlt := (List.getElem?_eq_some_iff.1 hs).1
 obtain ⟨k, rfl, hk, hk'⟩ := h.slc.loc (by omega)
 have g0 := fm_get' Sp.len (j := 0) (by omega) hs
 simp only [Sp.cells, List.getElem?_cons_zero, Nat.add_zero] at g0
 obtain ⟨n, ho⟩ := h.sls.own s.sl (List.mem_map.2 ⟨s, List.mem_of_getElem? hs, rfl⟩)
 have hn := ho.len
 simp only [Sp.sl, u64s_len, Nat.mul_one] at hn
 subst hn
 exact ⟨k, rfl, hk, hk', g0, ho⟩
theorem mem_spb {L : List Sp} {i : Nat} {s : Sp} (hs : L[i]? = some s) {b : Nat} (hb : b ∈ SA.bk s.a) : b ∈ sbk (L.map Sp.sl) := mem_sbk.2 ⟨s.sl, List.mem_map.2 ⟨s, List.mem_of_getElem? hs, rfl⟩, hb⟩
theorem within_no {J : AH O} {mb tb : Nat} {sa : SA} {L : List Sp} {met : Met} {low count id at_ n : Int} (h : MemC J mb tb sa L met low count) (hn : ¬ isOp (L.map Sp.v) id) : qfu [.p (some (.n mb, 0)), .i .i64 id, .i .i64 at_, .i .i64 n] J = some (.tup [.sl .nil 0, .i .i64 10], J) := by
 simp (maxSteps := 2000000) -implicitDefEqProofs (disch := (first | omega | rfl | assumption | (simp only [rsD]; first | omega | assumption))) only [qfu, qft, at_none h hn, Nat.reduceAdd, Nat.reduceMul, Nat.reduceLT, Int.reduceToNat, Int.reduceAdd, Int.reduceSub, Int.reduceMul, rsU, rsC]
theorem within_out {J : AH O} {mb tb : Nat} {sa : SA} {L : List Sp} {met : Met} {low count id at_ n : Int} (h : MemC J mb tb sa L met low count) (h0 : 0 <= id) {s : Sp} (hs : L[id.toNat]? = some s) (ho : s.op = true)
  (hl : s.ws.length <= 4194304) (ha : -9223372036854775808 <= at_ /\ at_ <= 9223372036854775807) (hw : n < 0 ∨ at_ < 0 ∨ at_ > (s.ws.length : Int) ∨ n > (s.ws.length : Int) - at_) : qfu [.p (some (.n mb, 0)), .i .i64 id, .i .i64 at_, .i .i64 n] J = some (.tup [.sl .nil 0, .i .i64 11], J) := by
 obtain ⟨k, rfl, hat⟩ := at_some h h0 hs ho
 obtain ⟨k', e, hk, _, g0, _⟩ := h.at hs
 cases e
 by_cases c1 : n < 0
 ·simp (maxSteps := 2000000) -implicitDefEqProofs (disch := (first | omega | rfl | assumption | (simp only [rsD]; first | omega | assumption))) only [qfu, qft, hat, Nat.reduceAdd, Nat.reduceMul, Nat.reduceLT, Int.reduceToNat, Int.reduceAdd, Int.reduceSub, Int.reduceMul, rsU, rsC]
 ·by_cases c2 : at_ < 0
  ·simp (maxSteps := 2000000) -implicitDefEqProofs (disch := (first | omega | rfl | assumption | (simp only [rsD]; first | omega | assumption))) only [qfu, qft, hat, Nat.reduceAdd, Nat.reduceMul, Nat.reduceLT, Int.reduceToNat, Int.reduceAdd, Int.reduceSub, Int.reduceMul, rsU, rsC]
  ·by_cases c3 : at_ > (s.ws.length : Int)
   ·simp (maxSteps := 2000000) -implicitDefEqProofs (disch := (first | omega | rfl | assumption | (simp only [rsD]; first | omega | assumption))) only [qfu, qft, hat, hk, g0, Nat.reduceAdd, Nat.reduceMul, Nat.reduceLT, Int.reduceToNat, Int.reduceAdd, Int.reduceSub, Int.reduceMul, rsU, rsC]
   ·simp (maxSteps := 2000000) -implicitDefEqProofs (disch := (first | omega | rfl | assumption | (simp only [rsD]; first | omega | assumption))) only [qfu, qft, hat, hk, g0, Nat.reduceAdd, Nat.reduceMul, Nat.reduceLT, Int.reduceToNat, Int.reduceAdd, Int.reduceSub, Int.reduceMul, rsU, rsC]
theorem within_ok {J : AH O} {mb tb : Nat} {sa : SA} {L : List Sp} {met : Met} {low count id at_ n : Int} (h : MemC J mb tb sa L met low count) (h0 : 0 <= id) {s : Sp} (hs : L[id.toNat]? = some s) (ho : s.op = true)
  (hl : s.ws.length <= 4194304) (h1 : 0 <= n) (h2 : 0 <= at_) (h3 : at_ + n <= (s.ws.length : Int)) : ∃ a', s.a.adv at_.toNat 1 = some a' /\ qfu [.p (some (.n mb, 0)), .i .i64 id, .i .i64 at_, .i .i64 n] J = some (.tup [.sl a' n.toNat, .i .i64 0], J) := by
 obtain ⟨k, rfl, hat⟩ := at_some h h0 hs ho
 obtain ⟨k', e, hk, _, g0, how⟩ := h.at hs
 cases e
 obtain ⟨a', ha, _⟩ := how.rd.adv (lo := at_.toNat) (m := n.toNat) (by omega)
 refine ⟨a', ha, ?_⟩
 have e1 : (at_ + n).toNat - at_.toNat = n.toNat := by omega
 simp (maxSteps := 2000000) -implicitDefEqProofs (disch := (first | omega | rfl | assumption | (simp only [rsD]; first | omega | assumption))) only [qfu, qft, hat, hk, g0, ha, e1, Nat.reduceAdd, Nat.reduceMul, Nat.reduceLT, Int.reduceToNat, Int.reduceAdd, Int.reduceSub, Int.reduceMul, rsU, rsC]
theorem MemC.step {J J' : AH O} {mb tb : Nat} {sa : SA} {L : List Sp} {met met' : Met} {low count : Int} (h : MemC J mb tb sa L met low count) (hc : Chg [tb] J J') (hm : MetAt J' tb met') : MemC J' mb tb sa L met' low count := by
 have hlt := h.flt
 have key : ∀ b ∈ memF mb tb sa L, b ≠ tb -> J'.blk b = J.blk b := fun b hb hne => hc.blk b (hlt b hb) (by simpa using hne)
 refine ⟨?_, Nat.lt_of_lt_of_le h.mlt hc.next, hm, h.slc.of hc.next fun b hb => key b (by simp [memF, hb]) (h.n1 b hb).2, h.sls.of hc.next fun b hb => key b (by simp [memF, hb]) (h.n2 b hb).2.1, h.ne, h.n1, h.n2⟩
 rw [key mb (by simp [memF]) h.ne]; exact h.m
theorem getW {M : MemS} {L : List Sp} {i : Nat} {w : List Int} (e : M.sp = L.map Sp.v) (hw : M.sp[i]? = some (true, w)) : ∃ s, L[i]? = some s /\ s.op = true /\ s.ws = w := by
 rw [e, List.getElem?_map] at hw
 obtain ⟨s, hs, hsv⟩ := Option.map_eq_some_iff.1 hw
 simp only [Sp.v, Prod.mk.injEq] at hsv
 exact ⟨s, hs, hsv.1, hsv.2⟩
theorem MemS.ok.len {M : MemS} (h : M.ok) {i : Nat} {w : List Int} (hw : M.sp[i]? = some (true, w)) : w.length <= 4194304 := h.size _ (List.mem_of_getElem? hw)
def MemS.rd (M : MemS) (n : Int) : MemS := { M with met := { M.met with r := M.met.r + n } }
def MemS.wr (M : MemS) (n : Int) : MemS := { M with met := { M.met with w := M.met.w + n } }
def MemS.put (M : MemS) (i : Nat) (w : List Int) : MemS := { M with sp := M.sp.set i (true, w) }
theorem adv_loc {J : AH O} {el n m : Nat} {a a' : SA} {cs : List AV} (h : OwnS J el 1 a n cs) (hm : m ≠ 0) (hlt : m <= n) {lo : Nat} (ha : a.adv lo 1 = some a') : ∃ k, a = .loc (.n k) 0 1 /\ a' = .loc (.n k) lo 1 /\ J.blk k = some (.cells true el cs) /\ k < J.next := by
 obtain ⟨k, rfl, hk, hk'⟩ := h.loc (by omega)
 rw [s_adv] at ha
 cases ha
 exact ⟨k, rfl, by simp, hk, hk'⟩
theorem read_ok {J : AH O} {mb : Nat} {F : List Nat} {M : MemS} {id at_ : Int} {w : List Int} {x : Int} (h : MemAt J mb F M) (hM : M.ok) (h0 : 0 <= id) (hw : M.sp[id.toNat]? = some (true, w)) (h1 : 0 <= at_) (hx : w[at_.toNat]? = some x) :
  Ok (qgo [.p (some (.n mb, 0)), .i .i64 id, .i .i64 at_] J) fun r => r.1 = .tup [.i .u64 x, .i .i64 0] /\ MemAt r.2 mb F (M.rd 1) /\ Chg F J r.2 := by
 obtain ⟨tb, sa, L, rfl, e, hC⟩ := h
 obtain ⟨s, hs, ho, rfl⟩ := getW e hw
 have hxl := (List.getElem?_eq_some_iff.1 hx).1
 obtain ⟨a', ha, hwi⟩ := within_ok (n := 1) hC h0 hs ho (hM.len hw) (by omega) h1 (by omega)
 obtain ⟨k', _, _, _, _, how⟩ := hC.at hs
 obtain ⟨k, ea, ea', hk, hk'⟩ := adv_loc (m := 1) how (by omega) (by omega) ha
 subst ea'
 obtain ⟨el', hm⟩ := hC.m
 have t1 : (1 : Int).toNat = 1 := rfl
 simp (maxSteps := 2000000) -implicitDefEqProofs (disch := (first | omega | rfl | assumption | (simp only [rsD]; first | omega | assumption))) only [qgo, qgn, hwi, t1, hm, Nat.reduceAdd, Nat.reduceMul, Nat.reduceLT, Int.reduceToNat, Int.reduceAdd, Int.reduceSub, Int.reduceMul, rsU, rsC]
 refine Ok.step (step_r_ok hC.met hM.met.r (by omega) (by omega)) fun r ⟨g1, g2, g3⟩ => ?_
 obtain ⟨q, J1⟩ := r
 simp only at g1 g2 g3
 subst g1
 have hkb : k ∈ sbk (L.map Sp.sl) := mem_spb hs (by rw [ea]; simp [SA.bk])
 have hk1 : J1.blk k = _ := (g3.blk k hk' (by simpa using (hC.n2 k hkb).2.1)).trans hk
 have gx := u64s_get hx
 simp (maxSteps := 2000000) -implicitDefEqProofs (disch := (first | omega | rfl | assumption | (simp only [rsD]; first | omega | assumption))) only [hk1, gx, Nat.add_zero, Nat.reduceAdd, Nat.reduceMul, Nat.reduceLT, Int.reduceToNat, Int.reduceAdd, Int.reduceSub, Int.reduceMul, rsU, rsC]
 refine Ok_some.2 ⟨rfl, ⟨tb, sa, L, rfl, e, hC.step g3 g2⟩, g3.mono fun b hb => .inl (by simp at hb; subst hb; simp [memF])⟩
theorem MemC.write {J : AH O} {mb tb : Nat} {sa : SA} {L : List Sp} {met : Met} {low count : Int} (h : MemC J mb tb sa L met low count) {i : Nat} {s : Sp} (hs : L[i]? = some s) {k : Nat} (ha : s.a = .loc (.n k) 0 1) (hk : J.blk k = some (.cells true T_uint64 (u64s s.ws))) {w' : List Int} (hl : w'.length = s.ws.length) :
  MemC (J.put k (.cells true T_uint64 (u64s w'))) mb tb sa (L.set i { s with ws := w' }) met low count /\ memF mb tb sa (L.set i { s with ws := w' }) = memF mb tb sa L /\ k ∈ memF mb tb sa L := by
 have hkb : k ∈ SA.bk s.a := by rw [ha]; simp [SA.bk]
 have hkm := mem_spb hs hkb
 have hnk := h.n2 k hkm
 have hs' : (L.map Sp.sl)[i]? = some s.sl := by rw [List.getElem?_map, hs]; rfl
 have hmap : (L.set i { s with ws := w' }).map Sp.sl = (L.map Sp.sl).set i (s.a, u64s w') := by rw [List.map_set]; rfl
 have hbk : sbk ((L.map Sp.sl).set i (s.a, u64s w')) = sbk (L.map Sp.sl) := by
  unfold sbk
  rw [List.flatMap_def, List.flatMap_def, List.map_set]
  congr 1
  apply List.ext_getElem?
  intro j
  rw [List.getElem?_set]
  split
  ·rename_i hij; subst hij
   rw [List.getElem?_map, hs']
   have := (List.getElem?_eq_some_iff.1 hs').1
   have this' : i < L.length := by simpa using this
   simp [Sp.sl, this']
  ·rfl
 have hcell : (L.set i { s with ws := w' }).flatMap Sp.cells = L.flatMap Sp.cells := by
  rw [List.flatMap_def, List.flatMap_def, List.map_set]
  congr 1
  apply List.ext_getElem?
  intro j
  rw [List.getElem?_set]
  split
  ·rename_i hij; subst hij
   rw [List.getElem?_map, hs]
   have := (List.getElem?_eq_some_iff.1 hs).1
   simp [Sp.cells, hl, this]
  ·rfl
 obtain ⟨n, ho⟩ := h.sls.own s.sl (List.mem_of_getElem? hs')
 have hlt := ho.lt k hkb
 refine ⟨⟨?_, h.mlt, h.met.of (Nat.le_refl _) (s_bn (fun e => hnk.2.1 e.symm)), ?_, ?_, h.ne, h.n1, ?_⟩, ?_, ?_⟩
 ·rw [s_bn (fun e => hnk.1 e.symm), List.length_set]; exact h.m
 ·rw [List.length_set, hcell]
  exact h.slc.of (Nat.le_refl _) fun b hb => s_bn fun e => hnk.2.2 (e ▸ hb)
 ·rw [hmap]
  refine h.sls.set hs' (Nat.le_refl _) (fun b _ hb => s_bn fun e => hb (by rw [e]; exact hkb)) ⟨s.ws.length, ?_⟩ fun b hb => .inl hb
  show OwnS _ T_uint64 1 s.a _ (u64s w')
  rw [ha]
  exact OwnS.new (by simp [u64s_len, hl]) s_bs hlt
 ·rw [hmap, hbk]; exact h.n2
 ·simp only [memF, hmap, hbk]
 ·simp [memF, hkm]
theorem write_ok {J : AH O} {mb : Nat} {F : List Nat} {M : MemS} {id at_ x : Int} {w : List Int} (h : MemAt J mb F M) (hM : M.ok) (h0 : 0 <= id) (hw : M.sp[id.toNat]? = some (true, w)) (h1 : 0 <= at_) (h2 : at_ < w.length) :
  Ok (qgj [.p (some (.n mb, 0)), .i .i64 id, .i .i64 at_, .i .u64 x] J) fun r => r.1 = .i .i64 0 /\ MemAt r.2 mb F ((M.wr 1).put id.toNat (w.set at_.toNat x)) /\ Chg F J r.2 := by
 obtain ⟨tb, sa, L, rfl, e, hC⟩ := h
 obtain ⟨s, hs, ho, rfl⟩ := getW e hw
 obtain ⟨a', ha, hwi⟩ := within_ok (n := 1) hC h0 hs ho (hM.len hw) (by omega) h1 (by omega)
 obtain ⟨k', _, _, _, _, how⟩ := hC.at hs
 obtain ⟨k, ea, ea', hk, hk'⟩ := adv_loc (m := 1) how (by omega) (by omega) ha
 subst ea'
 obtain ⟨el', hm⟩ := hC.m
 have t1 : (1 : Int).toNat = 1 := rfl
 simp (maxSteps := 2000000) -implicitDefEqProofs (disch := (first | omega | rfl | assumption | (simp only [rsD]; first | omega | assumption))) only [qgj, qgi, hwi, t1, hm, Nat.reduceAdd, Nat.reduceMul, Nat.reduceLT, Int.reduceToNat, Int.reduceAdd, Int.reduceSub, Int.reduceMul, rsU, rsC]
 refine Ok.step (step_w_ok hC.met hM.met.w (by omega) (by omega)) fun r ⟨g1, g2, g3⟩ => ?_
 obtain ⟨q, J1⟩ := r
 simp only at g1 g2 g3
 subst g1
 have hkb : k ∈ sbk (L.map Sp.sl) := mem_spb hs (by rw [ea]; simp [SA.bk])
 have hk1 : J1.blk k = _ := (g3.blk k hk' (by simpa using (hC.n2 k hkb).2.1)).trans hk
 have hsp : splice (u64s s.ws) at_.toNat [.i .u64 x] = u64s (s.ws.set at_.toNat x) := by
  rw [splice_set (by rw [u64s_len]; omega)]; simp [u64s, List.map_set]
 simp (maxSteps := 2000000) -implicitDefEqProofs (disch := (first | omega | rfl | assumption | (simp only [rsD]; first | omega | assumption))) only [hk1, u64s_len, hsp, Nat.reduceAdd, Nat.reduceMul, Nat.reduceLT, Int.reduceToNat, Int.reduceAdd, Int.reduceSub, Int.reduceMul, rsU, rsC]
 have hC1 := hC.step g3 g2
 obtain ⟨q1, q2, q3⟩ := hC1.write hs ea hk1 (w' := s.ws.set at_.toNat x) (by simp)
 refine Ok_some.2 ⟨rfl, ⟨tb, sa, _, q2.symm, ?_, q1⟩, (g3.mono fun b hb => .inl (by simp at hb; subst hb; simp [memF])).put (.inl q3) _⟩
 simp only [MemS.put, MemS.wr, e, List.map_set, Sp.v, ho]
def patched (w : List Int) (at_ : Nat) (v : List Int) : List Int := w.take at_ ++ v ++ w.drop (at_ + v.length)
theorem patched_len {w v : List Int} {a : Nat} (h : a + v.length <= w.length) : (patched w a v).length = w.length := by simp [patched]; omega
theorem splice_u64s (w v : List Int) (a : Nat) : splice (u64s w) a (u64s v) = u64s (patched w a v) := by
 simp [splice, patched, u64s, List.map_take, List.map_drop]
theorem put_self {M : MemS} {i : Nat} {w : List Int} (hw : M.sp[i]? = some (true, w)) : M.put i w = M := by
 have : M.sp.set i (true, w) = M.sp := by
  apply List.ext_getElem?
  intro j
  rw [List.getElem?_set]
  split
  ·rename_i hij; subst hij
   have := (List.getElem?_eq_some_iff.1 hw).1
   rw [hw]; simp [this]
  ·rfl
 cases M; simp only [MemS.put] at *; rw [this]
theorem patched_nil (w : List Int) (a : Nat) : patched w a [] = w := by simp [patched]
theorem zero_ok {J : AH O} {mb : Nat} {F : List Nat} {M : MemS} {id at_ n : Int} {w : List Int} (h : MemAt J mb F M) (hM : M.ok) (h0 : 0 <= id) (hw : M.sp[id.toNat]? = some (true, w)) (h1 : 0 <= at_) (hn : 0 <= n) (h2 : at_ + n <= w.length) :
  Ok (qgt [.p (some (.n mb, 0)), .i .i64 id, .i .i64 at_, .i .i64 n] J) fun r => r.1 = .i .i64 0 /\ MemAt r.2 mb F ((M.wr n).put id.toNat (patched w at_.toNat (List.replicate n.toNat 0))) /\ Chg F J r.2 := by
 have h' := h
 obtain ⟨tb, sa, L, rfl, e, hC⟩ := h
 obtain ⟨s, hs, ho, rfl⟩ := getW e hw
 have hlen := hM.len hw
 obtain ⟨a', ha, hwi⟩ := within_ok (n := n) hC h0 hs ho hlen hn h1 h2
 obtain ⟨k', _, _, _, _, how⟩ := hC.at hs
 obtain ⟨el', hm⟩ := hC.m
 by_cases hz : n = 0
 ·subst hz
  have t0 : (0 : Int).toNat = 0 := rfl
  simp (maxSteps := 2000000) -implicitDefEqProofs (disch := (first | omega | rfl | assumption | (simp only [rsD]; first | omega | assumption))) only [qgt, qgs, hwi, hm, t0, step_none, Nat.reduceAdd, Nat.reduceMul, Nat.reduceLT, Int.reduceToNat, Int.reduceAdd, Int.reduceSub, Int.reduceMul, rsU, rsC]
  refine Ok_some.2 ⟨rfl, ?_, Chg.refl _ _⟩
  rw [List.replicate_zero, patched_nil]
  have : M.wr 0 = M := by simp [MemS.wr]
  rw [this, put_self hw]; exact h'
 ·obtain ⟨k, ea, ea', hk, hk'⟩ := adv_loc (m := n.toNat) how (by omega) (by omega) ha
  subst ea'
  have z : Nat.beq n.toNat 0 = false := s_n1 (by omega)
  simp (maxSteps := 2000000) -implicitDefEqProofs (disch := (first | omega | rfl | assumption | (simp only [rsD]; first | omega | assumption))) only [qgt, qgs, hwi, hm, z, Nat.reduceAdd, Nat.reduceMul, Nat.reduceLT, Int.reduceToNat, Int.reduceAdd, Int.reduceSub, Int.reduceMul, rsU, rsC]
  refine Ok.step (step_w_ok hC.met hM.met.w (by omega) (by omega)) fun r ⟨g1, g2, g3⟩ => ?_
  obtain ⟨q, J1⟩ := r
  simp only at g1 g2 g3
  subst g1
  have hkb : k ∈ sbk (L.map Sp.sl) := mem_spb hs (by rw [ea]; simp [SA.bk])
  have hk1 : J1.blk k = _ := (g3.blk k hk' (by simpa using (hC.n2 k hkb).2.1)).trans hk
  simp (maxSteps := 2000000) -implicitDefEqProofs (disch := (first | omega | rfl | assumption | (simp only [rsD]; first | omega | assumption))) only [hk1, u64s_len, u64s_rep, splice_u64s, List.length_replicate, Nat.reduceAdd, Nat.reduceMul, Nat.reduceLT, Int.reduceToNat, Int.reduceAdd, Int.reduceSub, Int.reduceMul, rsU, rsC]
  have hC1 := hC.step g3 g2
  obtain ⟨q1, q2, q3⟩ := hC1.write hs ea hk1 (w' := patched s.ws at_.toNat (List.replicate n.toNat 0)) (patched_len (by simp; omega))
  refine Ok_some.2 ⟨rfl, ⟨tb, sa, _, q2.symm, ?_, q1⟩, (g3.mono fun b hb => .inl (by simp at hb; subst hb; simp [memF])).put (.inl q3) _⟩
  simp only [MemS.put, MemS.wr, e, List.map_set, Sp.v, ho]
theorem copy_ok {J : AH O} {mb : Nat} {F : List Nat} {M : MemS} {fr at_ to de n : Int} {w v : List Int} (h : MemAt J mb F M) (hM : M.ok) (h0 : 0 <= fr) (hw : M.sp[fr.toNat]? = some (true, w)) (h1 : 0 <= at_) (hn : 0 <= n) (h2 : at_ + n <= w.length)
  (k0 : 0 <= to) (hv : M.sp[to.toNat]? = some (true, v)) (k1 : 0 <= de) (k2 : de + n <= v.length) :
  Ok (qo8 [.p (some (.n mb, 0)), .i .i64 fr, .i .i64 at_, .i .i64 to, .i .i64 de, .i .i64 n] J) fun r => r.1 = .i .i64 0 /\ MemAt r.2 mb F (((M.rd n).wr n).put to.toNat (patched v de.toNat ((w.drop at_.toNat).take n.toNat))) /\ Chg F J r.2 := by
 have h' := h
 obtain ⟨tb, sa, L, rfl, e, hC⟩ := h
 obtain ⟨s, hs, ho, rfl⟩ := getW e hw
 obtain ⟨s2, hs2, ho2, rfl⟩ := getW e hv
 have hlen := hM.len hw
 have hlen2 := hM.len hv
 obtain ⟨a1, ha1, hwi1⟩ := within_ok (n := n) hC h0 hs ho hlen hn h1 h2
 obtain ⟨a2, ha2, hwi2⟩ := within_ok (n := n) hC k0 hs2 ho2 hlen2 hn k1 k2
 obtain ⟨_, _, _, _, _, how⟩ := hC.at hs
 obtain ⟨_, _, _, _, _, how2⟩ := hC.at hs2
 obtain ⟨el', hm⟩ := hC.m
 by_cases hz : n = 0
 ·subst hz
  have t0 : (0 : Int).toNat = 0 := rfl
  simp (maxSteps := 2000000) -implicitDefEqProofs (disch := (first | omega | rfl | assumption | (simp only [rsD]; first | omega | assumption))) only [qo8, qo7, hwi1, hwi2, hm, t0, step_none, Nat.min_self, Nat.reduceAdd, Nat.reduceMul, Nat.reduceLT, Int.reduceToNat, Int.reduceAdd, Int.reduceSub, Int.reduceMul, rsU, rsC]
  refine Ok_some.2 ⟨rfl, ?_, Chg.refl _ _⟩
  rw [patched_nil]
  have : (M.rd 0).wr 0 = M := by simp [MemS.wr, MemS.rd]
  rw [this, put_self hv]; exact h'
 ·obtain ⟨k, ea, ea', hk, hk'⟩ := adv_loc (m := n.toNat) how (by omega) (by omega) ha1
  obtain ⟨k', fa, fa', hl, hl'⟩ := adv_loc (m := n.toNat) how2 (by omega) (by omega) ha2
  subst ea'; subst fa'
  have z : Nat.beq n.toNat 0 = false := s_n1 (by omega)
  simp (maxSteps := 2000000) -implicitDefEqProofs (disch := (first | omega | rfl | assumption | (simp only [rsD]; first | omega | assumption))) only [qo8, qo7, hwi1, hwi2, hm, z, Nat.min_self, Nat.reduceAdd, Nat.reduceMul, Nat.reduceLT, Int.reduceToNat, Int.reduceAdd, Int.reduceSub, Int.reduceMul, rsU, rsC]
  refine Ok.step (step_r_ok hC.met hM.met.r (by omega) (by omega)) fun r ⟨g1, g2, g3⟩ => ?_
  obtain ⟨q, J1⟩ := r
  simp only at g1 g2 g3
  subst g1
  have hC1 := hC.step g3 g2
  obtain ⟨el1, hm1⟩ := hC1.m
  simp (maxSteps := 2000000) -implicitDefEqProofs (disch := (first | omega | rfl | assumption | (simp only [rsD]; first | omega | assumption))) only [hm1, Nat.reduceAdd, Nat.reduceMul, Nat.reduceLT, Int.reduceToNat, Int.reduceAdd, Int.reduceSub, Int.reduceMul, rsU, rsC]
  refine Ok.step (step_w_ok hC1.met hM.met.w (by omega) (by omega)) fun r ⟨g4, g5, g6⟩ => ?_
  obtain ⟨q, J2⟩ := r
  simp only at g4 g5 g6
  subst g4
  have hkb : k ∈ sbk (L.map Sp.sl) := mem_spb hs (by rw [ea]; simp [SA.bk])
  have hlb : k' ∈ sbk (L.map Sp.sl) := mem_spb hs2 (by rw [fa]; simp [SA.bk])
  have G := g3.trans g6
  have hk1 : J2.blk k = _ := (G.blk k hk' (by simpa using (hC.n2 k hkb).2.1)).trans hk
  have hl1 : J2.blk k' = _ := (G.blk k' hl' (by simpa using (hC.n2 k' hlb).2.1)).trans hl
  have ht : ((u64s s.ws).drop at_.toNat).take n.toNat = u64s ((s.ws.drop at_.toNat).take n.toNat) := by simp [u64s, List.map_take, List.map_drop]
  have hll : ((s.ws.drop at_.toNat).take n.toNat).length = n.toNat := by simp; omega
  simp (maxSteps := 2000000) -implicitDefEqProofs (disch := (first | omega | rfl | assumption | (simp only [rsD]; first | omega | assumption))) only [hk1, hl1, u64s_len, splice_u64s, ht, hll, Nat.reduceAdd, Nat.reduceMul, Nat.reduceLT, Int.reduceToNat, Int.reduceAdd, Int.reduceSub, Int.reduceMul, rsU, rsC]
  have hC2 := hC1.step g6 g5
  obtain ⟨q1, q2, q3⟩ := hC2.write hs2 fa hl1 (w' := patched s2.ws de.toNat ((s.ws.drop at_.toNat).take n.toNat)) (patched_len (by rw [hll]; omega))
  refine Ok_some.2 ⟨rfl, ⟨tb, sa, _, q2.symm, ?_, q1⟩, (G.mono fun b hb => .inl (by simp at hb; subst hb; simp [memF])).put (.inl q3) _⟩
  simp only [MemS.put, MemS.wr, MemS.rd, e, List.map_set, Sp.v, ho2]
end Go.Abs.Tryz
namespace Go.Abs.Tryz
open Go Go.Abs
variable {O : Type}
theorem read_no {J : AH O} {mb : Nat} {F : List Nat} {M : MemS} {id at_ : Int} (h : MemAt J mb F M) (hn : ¬ isOp M.sp id) : qgo [.p (some (.n mb, 0)), .i .i64 id, .i .i64 at_] J = some (.tup [.i .u64 0, .i .i64 10], J) := by
 obtain ⟨tb, sa, L, rfl, e, hC⟩ := h
 rw [e] at hn
 simp (maxSteps := 2000000) -implicitDefEqProofs (disch := (first | omega | rfl | assumption | (simp only [rsD]; first | omega | assumption))) only [qgo, qgn, within_no hC hn, Nat.reduceAdd, Nat.reduceMul, Nat.reduceLT, Int.reduceToNat, Int.reduceAdd, Int.reduceSub, Int.reduceMul, rsU, rsC]
theorem read_out {J : AH O} {mb : Nat} {F : List Nat} {M : MemS} {id at_ : Int} {w : List Int} (h : MemAt J mb F M) (hM : M.ok) (h0 : 0 <= id) (hw : M.sp[id.toNat]? = some (true, w)) (ha : -9223372036854775808 <= at_ /\ at_ <= 9223372036854775807) (h1 : at_ < 0 ∨ at_ >= w.length) :
  qgo [.p (some (.n mb, 0)), .i .i64 id, .i .i64 at_] J = some (.tup [.i .u64 0, .i .i64 11], J) := by
 obtain ⟨tb, sa, L, rfl, e, hC⟩ := h
 obtain ⟨s, hs, ho, rfl⟩ := getW e hw
 simp (maxSteps := 2000000) -implicitDefEqProofs (disch := (first | omega | rfl | assumption | (simp only [rsD]; first | omega | assumption))) only [qgo, qgn, within_out (n := 1) hC h0 hs ho (hM.len hw) ha (by omega), Nat.reduceAdd, Nat.reduceMul, Nat.reduceLT, Int.reduceToNat, Int.reduceAdd, Int.reduceSub, Int.reduceMul, rsU, rsC]
theorem write_no {J : AH O} {mb : Nat} {F : List Nat} {M : MemS} {id at_ x : Int} (h : MemAt J mb F M) (hn : ¬ isOp M.sp id) : qgj [.p (some (.n mb, 0)), .i .i64 id, .i .i64 at_, .i .u64 x] J = some (.i .i64 10, J) := by
 obtain ⟨tb, sa, L, rfl, e, hC⟩ := h
 rw [e] at hn
 simp (maxSteps := 2000000) -implicitDefEqProofs (disch := (first | omega | rfl | assumption | (simp only [rsD]; first | omega | assumption))) only [qgj, qgi, within_no hC hn, Nat.reduceAdd, Nat.reduceMul, Nat.reduceLT, Int.reduceToNat, Int.reduceAdd, Int.reduceSub, Int.reduceMul, rsU, rsC]
theorem write_out {J : AH O} {mb : Nat} {F : List Nat} {M : MemS} {id at_ x : Int} {w : List Int} (h : MemAt J mb F M) (hM : M.ok) (h0 : 0 <= id) (hw : M.sp[id.toNat]? = some (true, w)) (ha : -9223372036854775808 <= at_ /\ at_ <= 9223372036854775807) (h1 : at_ < 0 ∨ at_ >= w.length) :
  qgj [.p (some (.n mb, 0)), .i .i64 id, .i .i64 at_, .i .u64 x] J = some (.i .i64 11, J) := by
 obtain ⟨tb, sa, L, rfl, e, hC⟩ := h
 obtain ⟨s, hs, ho, rfl⟩ := getW e hw
 simp (maxSteps := 2000000) -implicitDefEqProofs (disch := (first | omega | rfl | assumption | (simp only [rsD]; first | omega | assumption))) only [qgj, qgi, within_out (n := 1) hC h0 hs ho (hM.len hw) ha (by omega), Nat.reduceAdd, Nat.reduceMul, Nat.reduceLT, Int.reduceToNat, Int.reduceAdd, Int.reduceSub, Int.reduceMul, rsU, rsC]
theorem zero_no {J : AH O} {mb : Nat} {F : List Nat} {M : MemS} {id at_ n : Int} (h : MemAt J mb F M) (hn : ¬ isOp M.sp id) : qgt [.p (some (.n mb, 0)), .i .i64 id, .i .i64 at_, .i .i64 n] J = some (.i .i64 10, J) := by
 obtain ⟨tb, sa, L, rfl, e, hC⟩ := h
 rw [e] at hn
 simp (maxSteps := 2000000) -implicitDefEqProofs (disch := (first | omega | rfl | assumption | (simp only [rsD]; first | omega | assumption))) only [qgt, qgs, within_no hC hn, Nat.reduceAdd, Nat.reduceMul, Nat.reduceLT, Int.reduceToNat, Int.reduceAdd, Int.reduceSub, Int.reduceMul, rsU, rsC]
theorem zero_out {J : AH O} {mb : Nat} {F : List Nat} {M : MemS} {id at_ n : Int} {w : List Int} (h : MemAt J mb F M) (hM : M.ok) (h0 : 0 <= id) (hw : M.sp[id.toNat]? = some (true, w)) (ha : -9223372036854775808 <= at_ /\ at_ <= 9223372036854775807) (h1 : n < 0 ∨ at_ < 0 ∨ at_ > (w.length : Int) ∨ n > (w.length : Int) - at_) :
  qgt [.p (some (.n mb, 0)), .i .i64 id, .i .i64 at_, .i .i64 n] J = some (.i .i64 11, J) := by
 obtain ⟨tb, sa, L, rfl, e, hC⟩ := h
 obtain ⟨s, hs, ho, rfl⟩ := getW e hw
 simp (maxSteps := 2000000) -implicitDefEqProofs (disch := (first | omega | rfl | assumption | (simp only [rsD]; first | omega | assumption))) only [qgt, qgs, within_out hC h0 hs ho (hM.len hw) ha h1, Nat.reduceAdd, Nat.reduceMul, Nat.reduceLT, Int.reduceToNat, Int.reduceAdd, Int.reduceSub, Int.reduceMul, rsU, rsC]
theorem MemC.repl {J J' : AH O} {mb tb : Nat} {sa : SA} {L : List Sp} {met : Met} {low count low' count' : Int} (h : MemC J mb tb sa L met low count) {i : Nat} {s s' : Sp} (hs : L[i]? = some s) {k : Nat} (hk : sa = .loc (.n k) 0 2) (hn : J.next <= J'.next)
  (hb : ∀ b ∈ memF mb tb sa L, b ≠ k -> b ≠ mb -> J'.blk b = J.blk b) (hsp : J'.blk k = some (.cells true T_mem_space ((L.set i s').flatMap Sp.cells)))
  (hm : ∃ el, J'.blk mb = some (.cells true el [.p (some (.n tb, 0)), .sl sa L.length, .i .i64 low', .i .i64 count'])) (how : ∃ n, OwnS J' T_uint64 1 s'.a n (u64s s'.ws)) (hf : ∀ b ∈ SA.bk s'.a, J.next <= b) :
  MemC J' mb tb sa (L.set i s') met low' count' /\ Fp (memF mb tb sa L) (memF mb tb sa (L.set i s')) J := by
 have hflt := h.flt
 have hs' : (L.map Sp.sl)[i]? = some s.sl := by rw [List.getElem?_map, hs]; rfl
 have hmap : (L.set i s').map Sp.sl = (L.map Sp.sl).set i s'.sl := by rw [List.map_set]
 have kb : k ∈ SA.bk sa := by rw [hk]; simp [SA.bk]
 have hkm := h.n1 k kb
 have hle := h.slc.len
 refine ⟨⟨by rw [List.length_set]; exact hm, Nat.lt_of_lt_of_le h.mlt hn, h.met.of hn (hb tb (by simp [memF]) (fun e => hkm.2 e.symm) (fun e => h.ne e.symm)), ?_, ?_, h.ne, h.n1, ?_⟩, ?_⟩
 ·rw [hk]
  exact OwnS.new (by rw [fm_len Sp.len]) hsp (Nat.lt_of_lt_of_le (hflt k (by simp [memF, kb])) hn)
 ·rw [hmap]
  refine h.sls.set hs' hn (fun b hb' _ => ?_) how fun b hb' => .inr fun hm' => ?_
  ·have := h.n2 b hb'
   exact hb b (by simp [memF, hb']) (fun e => this.2.2 (e ▸ kb)) this.1
  ·have := hf b hb'
   have := hflt b (by simp [memF, hm']); omega
 ·intro b hb'
  rw [hmap] at hb'
  rcases sbk_set hb' with g | g
  ·have := hf b g
   exact ⟨fun e => by have := h.mlt; omega, fun e => by have := h.met.lt; omega, fun hm' => by have := h.slc.lt b hm'; omega⟩
  ·exact h.n2 b g
 ·intro b hb'
  simp only [memF, List.mem_cons, List.mem_append, hmap] at hb' ⊢
  rcases hb' with g | g | g | g
  ·exact .inl (.inl g)
  ·exact .inl (.inr (.inl g))
  ·exact .inl (.inr (.inr (.inl g)))
  ·rcases sbk_set g with g | g
   ·exact .inr (hf b g)
   ·exact .inl (.inr (.inr (.inr g)))
end Go.Abs.Tryz
namespace Go.Abs.Tryz
open Go Go.Abs
variable {O : Type}
def MemS.grow (M : MemS) (i : Nat) (w : List Int) (n : Int) : MemS := { M with met := M.met.hold (n - w.length), sp := M.sp.set i (true, w ++ List.replicate (n.toNat - w.length) 0) }
theorem sum_set {l : List Nat} {i x : Nat} {y : Nat} (h : l[i]? = some y) : (l.set i x).sum + y = l.sum + x := by
 induction l generalizing i with
 | nil => simp at h
 | cons z l ih =>
  cases i with
  | zero => simp at h; subst h; simp; omega
  | succ i => simp at h; have := ih h; simp; omega
theorem grow_room {M : MemS} (hM : M.ok) {i : Nat} {w : List Int} (hw : M.sp[i]? = some (true, w)) {n : Int} (h1 : (w.length : Int) <= n) (h2 : n <= 4194304) : M.met.held + (n - w.length) <= 281474976710656 := by
 have := hM.bound
 omega
theorem grow_ok {J : AH O} {mb : Nat} {F : List Nat} {M : MemS} {id n : Int} {w : List Int} (h : MemAt J mb F M) (hM : M.ok) (h0 : 0 <= id) (hw : M.sp[id.toNat]? = some (true, w)) (h1 : (w.length : Int) <= n) (h2 : n <= 4194304) :
  Ok (qff [.p (some (.n mb, 0)), .i .i64 id, .i .i64 n] J) fun r => r.1 = .i .i64 0 /\ ∃ F', MemAt r.2 mb F' (M.grow id.toNat w n) /\ Chg F J r.2 /\ Fp F F' J := by
 have hroom := grow_room hM hw h1 h2
 obtain ⟨tb, sa, L, rfl, e, hC⟩ := h
 obtain ⟨s, hs, ho, rfl⟩ := getW e hw
 have hlen := hM.len hw
 obtain ⟨k, rfl, hat⟩ := at_some hC h0 hs ho
 obtain ⟨k', e1, hk, hk', g0, how⟩ := hC.at hs
 cases e1
 obtain ⟨el', hm⟩ := hC.m
 have hkn := hC.n1 k (by simp [SA.bk])
 have kmb := hkn.1
 have ktb := hkn.2
 have hmlt := hC.mlt
 simp (maxSteps := 2000000) -implicitDefEqProofs (disch := (first | omega | rfl | assumption | (simp only [rsD]; first | omega | assumption))) only [qff, qfe, hat, hk, g0, hm, Nat.reduceAdd, Nat.reduceMul, Nat.reduceLT, Int.reduceToNat, Int.reduceAdd, Int.reduceSub, Int.reduceMul, rsU, rsC]
 refine Ok.step (hold_ok hC.met hM.met (by omega) hroom) fun r ⟨g1, g2, g3⟩ => ?_
 obtain ⟨q, J1⟩ := r
 simp only at g1 g2 g3
 subst g1
 have hC1 := hC.step g3 g2
 have hk1 : J1.blk k = _ := (g3.blk k hk' (by simpa using ktb)).trans hk
 have hm1 : J1.blk mb = _ := (g3.blk mb hmlt (by simpa using hC.ne)).trans hm
 have hlt := (List.getElem?_eq_some_iff.1 hs).1
 have hl2 := fm_len Sp.len L
 have hn1 := g3.next
 have how1 : OwnS J1 T_uint64 1 s.a s.ws.length (u64s s.ws) := how.of hn1 fun b hb => by
  have hb' := mem_spb hs hb
  exact g3.blk b (how.lt b hb) (by simpa using (hC.n2 b hb').2.1)
 have key : ∀ J2 : AH O, J2.next = J1.next + 1 -> (∀ b, b < J1.next -> J2.blk b = J1.blk b) -> J2.blk J1.next = some (.cells true T_uint64 (u64s (s.ws ++ List.replicate (n.toNat - s.ws.length) 0))) ->
   Ok (((SA.ref (.loc (.n k) 0 2)).bind fun q => J2.st q.1 (q.2 + id.toNat * 2) [.sl (.loc (.n J1.next) 0 1) n.toNat]).bind fun J3 => some (AV.i .i64 0, J3)) fun r => r.1 = .i .i64 0 /\ ∃ F', MemAt r.2 mb F' (M.grow id.toNat s.ws n) /\ Chg (memF mb tb (.loc (.n k) 0 2) L) J r.2 /\ Fp (memF mb tb (.loc (.n k) 0 2) L) F' J := by
  intro J2 n2 b2 w2
  have hk2 : J2.blk k = _ := (b2 k (by omega)).trans hk1
  have hsp : splice (L.flatMap Sp.cells) (id.toNat * 2) [.sl (.loc (.n J1.next) 0 1) n.toNat] = (L.set id.toNat ⟨.loc (.n J1.next) 0 1, true, s.ws ++ List.replicate (n.toNat - s.ws.length) 0⟩).flatMap Sp.cells := by
   have := fm_splice Sp.len L id.toNat 0 [.sl (.loc (.n J1.next) 0 1) n.toNat] s ⟨.loc (.n J1.next) 0 1, true, s.ws ++ List.replicate (n.toNat - s.ws.length) 0⟩ hs (by simp) (by
    have e9 : n.toNat = s.ws.length + (n.toNat - s.ws.length) := by omega
    simp only [Sp.cells, splice_zz, splice_z, ho, List.length_append, List.length_replicate]; rw [<- e9])
   simpa using this
  simp (maxSteps := 2000000) -implicitDefEqProofs (disch := (first | omega | rfl | assumption | (simp only [rsD]; first | omega | assumption))) only [hk2, hl2, hsp, Nat.reduceAdd, Nat.reduceMul, Nat.reduceLT, Int.reduceToNat, Int.reduceAdd, Int.reduceSub, Int.reduceMul, rsU, rsC]
  obtain ⟨q1, q2⟩ := hC1.repl (J' := J2.put k (.cells true T_mem_space ((L.set id.toNat ⟨.loc (.n J1.next) 0 1, true, s.ws ++ List.replicate (n.toNat - s.ws.length) 0⟩).flatMap Sp.cells)))
   hs (s' := ⟨.loc (.n J1.next) 0 1, true, s.ws ++ List.replicate (n.toNat - s.ws.length) 0⟩) rfl (by simp only [put_next]; omega) (fun b hb h1 h2 => by
    rw [s_bn h1]; exact b2 b (hC1.flt b hb)) s_bs (by rw [s_bn (fun e => kmb e.symm), b2 mb (by omega)]; exact ⟨el', hm1⟩)
   ⟨n.toNat, OwnS.new (by simp [u64s_len]; omega) (by rw [s_bn (by omega)]; exact w2) (by simp only [put_next]; omega)⟩ (by simp [SA.bk])
  refine Ok_some.2 ⟨rfl, _, ⟨tb, _, _, rfl, ?_, q1⟩, ?_, fun b hb => ?_⟩
  ·simp only [MemS.grow, e, List.map_set, Sp.v]
  ·refine Chg.put ?_ (.inl (by simp [memF, SA.bk])) _
   exact ⟨by omega, fun b hb hn => by rw [b2 b (by omega)]; exact g3.blk b hb fun hm => hn (by simp at hm; subst hm; simp [memF])⟩
  ·rcases q2 b hb with g | g
   ·exact .inl g
   ·exact .inr (by omega)
 have hmn : min s.ws.length n.toNat = s.ws.length := by omega
 by_cases hz : s.ws.length = 0
 ·have h00 : s.ws = [] := List.eq_nil_of_length_eq_zero hz
  have z : Nat.beq (min s.ws.length n.toNat) 0 = true := by rw [hmn, hz]; rfl
  simp (maxSteps := 2000000) -implicitDefEqProofs (disch := (first | omega | rfl | assumption | (simp only [rsD]; first | omega | assumption))) only [hk1, g0, z, u64s_rep, Nat.reduceAdd, Nat.reduceMul, Nat.reduceLT, Int.reduceToNat, Int.reduceAdd, Int.reduceSub, Int.reduceMul, rsU, rsC]
  have := key ((J1.bump 1).put J1.next (.cells true T_uint64 (u64s (List.replicate n.toNat 0)))) (by simp) (fun b hb => by rw [s_bn (by omega)]; rfl) (by rw [s_bs, h00]; simp)
  simp (maxSteps := 2000000) -implicitDefEqProofs (disch := (first | omega | rfl | assumption | (simp only [rsD]; first | omega | assumption))) only [hk1, Nat.reduceAdd, Nat.reduceMul, Nat.reduceLT, Int.reduceToNat, Int.reduceAdd, Int.reduceSub, Int.reduceMul, rsU, rsC] at this
  exact this
 ·have z : Nat.beq s.ws.length 0 = false := s_n1 hz
  have hr := (how1.of (J' := (J1.bump 1).put J1.next (.cells true T_uint64 (u64s (List.replicate n.toNat 0)))) (by simp) fun b hb => by
   have := how1.lt b hb
   rw [s_bn (by omega)]; rfl).rd.rdSl
  have hp : splice (u64s (List.replicate n.toNat 0)) 0 (u64s s.ws) = u64s (s.ws ++ List.replicate (n.toNat - s.ws.length) 0) := by
   rw [splice_u64s]; simp [patched]
  simp (maxSteps := 2000000) -implicitDefEqProofs (disch := (first | omega | rfl | assumption | (simp only [rsD]; first | omega | assumption))) only [hk1, g0, hmn, z, u64s_rep, hr, u64s_len, List.length_replicate, hp, Nat.reduceAdd, Nat.reduceMul, Nat.reduceLT, Int.reduceToNat, Int.reduceAdd, Int.reduceSub, Int.reduceMul, rsU, rsC]
  have := key ((J1.bump 1).put J1.next (.cells true T_uint64 (u64s (s.ws ++ List.replicate (n.toNat - s.ws.length) 0)))) (by simp) (fun b hb => by rw [s_bn (by omega)]; rfl) s_bs
  simp (maxSteps := 2000000) -implicitDefEqProofs (disch := (first | omega | rfl | assumption | (simp only [rsD]; first | omega | assumption))) only [hk1, Nat.reduceAdd, Nat.reduceMul, Nat.reduceLT, Int.reduceToNat, Int.reduceAdd, Int.reduceSub, Int.reduceMul, rsU, rsC] at this
  exact this
theorem grow_no {J : AH O} {mb : Nat} {F : List Nat} {M : MemS} {id n : Int} (h : MemAt J mb F M) (hn : ¬ isOp M.sp id) : qff [.p (some (.n mb, 0)), .i .i64 id, .i .i64 n] J = some (.i .i64 10, J) := by
 obtain ⟨tb, sa, L, rfl, e, hC⟩ := h
 rw [e] at hn
 simp (maxSteps := 2000000) -implicitDefEqProofs (disch := (first | omega | rfl | assumption | (simp only [rsD]; first | omega | assumption))) only [qff, qfe, at_none hC hn, Nat.reduceAdd, Nat.reduceMul, Nat.reduceLT, Int.reduceToNat, Int.reduceAdd, Int.reduceSub, Int.reduceMul, rsU, rsC]
theorem grow_bad {J : AH O} {mb : Nat} {F : List Nat} {M : MemS} {id n : Int} {w : List Int} (h : MemAt J mb F M) (h0 : 0 <= id) (hw : M.sp[id.toNat]? = some (true, w)) (h1 : n < w.length ∨ n > 4194304) :
  qff [.p (some (.n mb, 0)), .i .i64 id, .i .i64 n] J = some (.i .i64 (if n < w.length then 1 else 7), J) := by
 obtain ⟨tb, sa, L, rfl, e, hC⟩ := h
 obtain ⟨s, hs, ho, rfl⟩ := getW e hw
 obtain ⟨k, rfl, hat⟩ := at_some hC h0 hs ho
 obtain ⟨k', e1, hk, hk', g0, how⟩ := hC.at hs
 cases e1
 by_cases hc : n < s.ws.length
 ·simp (maxSteps := 2000000) -implicitDefEqProofs (disch := (first | omega | rfl | assumption | (simp only [rsD]; first | omega | assumption))) only [qff, qfe, hat, hk, g0, Nat.reduceAdd, Nat.reduceMul, Nat.reduceLT, Int.reduceToNat, Int.reduceAdd, Int.reduceSub, Int.reduceMul, rsU, rsC]
  rw [if_pos hc]
 ·simp (maxSteps := 2000000) -implicitDefEqProofs (disch := (first | omega | rfl | assumption | (simp only [rsD]; first | omega | assumption))) only [qff, qfe, hat, hk, g0, Nat.reduceAdd, Nat.reduceMul, Nat.reduceLT, Int.reduceToNat, Int.reduceAdd, Int.reduceSub, Int.reduceMul, rsU, rsC]
  rw [if_neg hc]
end Go.Abs.Tryz
namespace Go.Abs.Tryz
open Go Go.Abs
variable {O : Type}
structure Free (l : List (Bool × List Int)) (i : Nat) : Prop where
 le : i <= l.length
 below : ∀ j, j < i -> ∃ w, l[j]? = some (true, w)
 here : ∀ s, l[i]? = some s -> s.1 = false
theorem Free.uniq {l : List (Bool × List Int)} {i j : Nat} (h : Free l i) (k : Free l j) : i = j := by
 rcases Nat.lt_trichotomy i j with hh | hh | hh
 ·obtain ⟨w, hw⟩ := k.below i hh
  have := h.here _ hw; cases this
 ·exact hh
 ·obtain ⟨w, hw⟩ := h.below j hh
  have := k.here _ hw; cases this
def putAt (l : List (Bool × List Int)) (i : Nat) (x : Bool × List Int) : List (Bool × List Int) := if i < l.length then l.set i x else l ++ [x]
def MemS.opn (M : MemS) (i : Nat) (n : Int) : MemS := ⟨M.met.hold n, putAt M.sp i (true, List.replicate n.toNat 0), i + 1, M.count + 1⟩
theorem open_ok {J : AH O} {mb : Nat} {F : List Nat} {M : MemS} {n : Int} (h : MemAt J mb F M) (hM : M.ok) (h1 : 0 <= n) (h2 : n <= 4194304) (h3 : M.count < 262144) :
  Ok (qb0 [.p (some (.n mb, 0)), .i .i64 n] J) fun r => ∃ i : Nat, Free M.sp i /\ r.1 = .tup [.i .i64 i, .i .i64 0] /\ ∃ F', MemAt r.2 mb F' (M.opn i n) /\ Chg F J r.2 /\ Fp F F' J := by
 have hroom : M.met.held + n <= 281474976710656 := by have := hM.bound; omega
 obtain ⟨tb, sa, L, rfl, e, hC⟩ := h
 obtain ⟨el', hm⟩ := hC.m
 have hlow := hM.low
 have hfew := hM.few
 have hlen : M.sp.length = L.length := by rw [e, List.length_map]
 rw [hlen] at hlow hfew
 have hmlt := hC.mlt
 simp (maxSteps := 2000000) -implicitDefEqProofs (disch := (first | omega | rfl | assumption | (simp only [rsD]; first | omega | assumption))) only [qb0, qbz, hm, Nat.reduceAdd, Nat.reduceMul, Nat.reduceLT, Int.reduceToNat, Int.reduceAdd, Int.reduceSub, Int.reduceMul, rsU, rsC]
 refine Ok.step (Q := fun r => ∃ i : Nat, Free M.sp i /\ r = ([.i .i64 (i : Int)], J)) ?_ ?_
 ·refine Ok.loop (fun k s => ∃ j : Nat, s = ([.i .i64 (j : Int)], J) /\ j <= L.length /\ k = L.length - j /\ ∀ q, q < j -> ∃ w, M.sp[q]? = some (true, w)) ?_ (L.length - M.low.toNat) _ ⟨M.low.toNat, by rw [Int.toNat_of_nonneg hlow.1], by omega, rfl, fun q hq => ?_⟩
  ·rintro k s ⟨j, rfl, hj, rfl, hq⟩
   by_cases hjl : j < L.length
   ·have hs := List.getElem?_eq_getElem hjl
    obtain ⟨k, rfl, hk, hk', g0, how⟩ := hC.at hs
    have g1 := fm_get' Sp.len (j := 1) (by omega) hs
    simp only [Sp.cells, List.getElem?_cons_succ, List.getElem?_cons_zero] at g1
    simp (maxSteps := 2000000) -implicitDefEqProofs (disch := (first | omega | rfl | assumption | (simp only [rsD]; first | omega | assumption))) only [qby, hm, hk, g1, Nat.reduceAdd, Nat.reduceMul, Nat.reduceLT, Int.reduceToNat, Int.reduceAdd, Int.reduceSub, Int.reduceMul, rsU, rsC]
    cases ho : L[j].op with
    | true =>
     simp (maxSteps := 2000000) -implicitDefEqProofs (disch := (first | omega | rfl | assumption | (simp only [rsD]; first | omega | assumption))) only [Nat.reduceAdd, Nat.reduceMul, Nat.reduceLT, Int.reduceToNat, Int.reduceAdd, Int.reduceSub, Int.reduceMul, rsU, rsC]
     exact Ok_some.2 ⟨_, (by omega : L.length - (j + 1) < L.length - j), j + 1, by simp, by omega, rfl, fun q hq' => by
      rcases Nat.lt_or_ge q j with hh | hh
      ·exact hq q hh
      ·obtain rfl : q = j := by omega
       exact ⟨L[q].ws, by rw [e, List.getElem?_map, hs, Option.map_some, Sp.v, ho]⟩⟩
    | false =>
     simp (maxSteps := 2000000) -implicitDefEqProofs (disch := (first | omega | rfl | assumption | (simp only [rsD]; first | omega | assumption))) only [Nat.reduceAdd, Nat.reduceMul, Nat.reduceLT, Int.reduceToNat, Int.reduceAdd, Int.reduceSub, Int.reduceMul, rsU, rsC]
     refine Ok_some.2 ⟨j, ⟨by omega, hq, fun s hs' => ?_⟩, rfl⟩
     rw [e, List.getElem?_map, hs, Option.map_some] at hs'
     cases hs'; exact ho
   ·simp (maxSteps := 2000000) -implicitDefEqProofs (disch := (first | omega | rfl | assumption | (simp only [rsD]; first | omega | assumption))) only [qby, hm, Nat.reduceAdd, Nat.reduceMul, Nat.reduceLT, Int.reduceToNat, Int.reduceAdd, Int.reduceSub, Int.reduceMul, rsU, rsC]
    refine Ok_some.2 ⟨j, ⟨by omega, hq, fun s hs' => ?_⟩, rfl⟩
    have := (List.getElem?_eq_some_iff.1 hs').1
    omega
  ·have hql : q < M.sp.length := by omega
   have hs := List.getElem?_eq_getElem hql
   have := hM.below q (by omega) _ hs
   exact ⟨M.sp[q].2, by rw [hs]; congr 1; exact Prod.ext this rfl⟩
 rintro r ⟨i, hfree, rfl⟩
 have hil := hfree.le
 rw [hlen] at hil
 simp (maxSteps := 2000000) -implicitDefEqProofs (disch := (first | omega | rfl | assumption | (simp only [rsD]; first | omega | assumption))) only [hm, Nat.reduceAdd, Nat.reduceMul, Nat.reduceLT, Int.reduceToNat, Int.reduceAdd, Int.reduceSub, Int.reduceMul, rsU, rsC]
 refine Ok.step (Q := fun r => r.1 = [] /\ ∃ sa' L' s, MemC r.2 mb tb sa' L' M.met M.low M.count /\ L'[i]? = some s /\ s.op = false /\ (∀ x, (L'.map Sp.v).set i x = putAt M.sp i x) /\ Chg (memF mb tb sa L) J r.2 /\ Fp (memF mb tb sa L) (memF mb tb sa' L') J) ?_ ?_
 ·by_cases hi : i = L.length
  ·have rm : Nat.ble ((L.length + 1) * 33) 35184372088832 = true := s_room (by omega)
   have t2 : List.take (0 + 1 * 2) [AV.sl .nil 0, AV.b false] = [.sl .nil 0, .b false] := rfl
   have hC0 : MemC ((J.bump 2).put J.next (.cells true T_mem_space [.sl .nil 0, .b false])) mb tb sa L M.met M.low M.count := hC.of (by simp) fun b hb => by
    have := hC.flt b hb
    rw [s_bn (by omega)]; rfl
   generalize hJ0 : (J.bump 2).put J.next (.cells true T_mem_space [.sl .nil 0, .b false]) = J0 at hC0
   have hm0 := (show J0.blk mb = J.blk mb by rw [<- hJ0, s_bn (by omega)]; rfl).trans hm
   have n0 : J0.next = J.next + 2 := by rw [<- hJ0]; rfl
   have b0 : ∀ b, b < J.next -> J0.blk b = J.blk b := fun b hb => by rw [<- hJ0, s_bn (by omega)]; rfl
   have hnl : ∀ b ∈ memF mb tb sa L, b < J.next := hC.flt
   simp (maxSteps := 2000000) -implicitDefEqProofs (disch := (first | omega | rfl | assumption | (simp only [rsD]; first | omega | assumption))) only [hm, rm, hJ0, Nat.reduceAdd, Nat.reduceMul, Nat.reduceLT, Int.reduceToNat, Int.reduceAdd, Int.reduceSub, Int.reduceMul, rsU, rsC]
   refine Ok.step (app_ok (nid := J.next + 1) hC0.slc (fun hb => by have := hnl (J.next + 1) (by simp [memF, hb]); omega) (by omega) (m := 1) (new := [.sl .nil 0, .b false]) (by simp)) fun r ⟨a', g1, g2, g3, g4, g5⟩ => ?_
   obtain ⟨q, J1⟩ := r
   simp only at g1 g2 g3 g4 g5
   subst g1
   have hmsa : mb ∉ SA.bk sa := fun hb => (hC.n1 mb hb).1 rfl
   have htsa : tb ∉ SA.bk sa := fun hb => (hC.n1 tb hb).2 rfl
   have htlt := hC.met.lt
   have hm1 : J1.blk mb = _ := (g4 mb (by omega) hmsa).trans hm0
   simp (maxSteps := 2000000) -implicitDefEqProofs (disch := (first | omega | rfl | assumption | (simp only [rsD]; first | omega | assumption))) only [hm1, Nat.reduceAdd, Nat.reduceMul, Nat.reduceLT, Int.reduceToNat, Int.reduceAdd, Int.reduceSub, Int.reduceMul, rsU, rsC]
   have hcells : L.flatMap Sp.cells ++ [.sl .nil 0, .b false] = (L ++ [(⟨.nil, false, []⟩ : Sp)]).flatMap Sp.cells := by simp [Sp.cells]
   have hmap : (L ++ [(⟨.nil, false, []⟩ : Sp)]).map Sp.sl = L.map Sp.sl ++ [(.nil, [])] := by simp [Sp.sl, u64s]
   have hsb : sbk (L.map Sp.sl ++ [(.nil, [])]) = sbk (L.map Sp.sl) := by rw [sbk_append]; simp [sbk, SA.bk]
   have hsn : ∀ b ∈ sbk (L.map Sp.sl), J1.blk b = J0.blk b := fun b hb => g4 b (by have := hnl b (by simp [memF, hb]); omega) (hC.n2 b hb).2.2
   refine Ok_some.2 ⟨rfl, a', L ++ [⟨.nil, false, []⟩], ⟨.nil, false, []⟩, ⟨⟨el', by rw [s_bs]; simp⟩, by simp only [put_next]; omega, ?_, ?_, ?_, hC.ne, ?_, ?_⟩, by rw [hi]; simp, rfl, fun x => ?_, ?_, ?_⟩
   ·refine hC0.met.of (by simp only [put_next]; omega) ?_
    rw [s_bn (fun e => hC.ne e.symm), g4 tb (by omega) htsa]
   ·rw [<- hcells, List.length_append]
    exact g2.of (Nat.le_refl _) fun b hb => s_bn (by have := g5 b hb; omega)
   ·rw [hmap]
    refine Sls.snoc ?_ ⟨0, OwnS.nil _ _ _⟩ (by simp [SA.bk])
    exact hC0.sls.of (by simp only [put_next]; omega) fun b hb => by rw [s_bn (hC.n2 b hb).1]; exact hsn b hb
   ·intro b hb
    have := g5 b hb
    exact ⟨by omega, by omega⟩
   ·intro b hb
    rw [hmap, hsb] at hb
    have h9 := hC.n2 b hb
    exact ⟨h9.1, h9.2.1, fun hb' => by have := g5 b hb'; have := hnl b (by simp [memF, hb]); omega⟩
   ·rw [hi, List.map_append, putAt, if_neg (by omega), e]
    simp [List.set_append]
   ·refine Chg.put ⟨by omega, fun b hb hn => ?_⟩ (.inl (by simp [memF])) _
    rw [g4 b (by omega) (fun hs => hn (by simp [memF, hs]))]; exact b0 b hb
   ·intro b hb
    simp only [memF, List.mem_cons, List.mem_append, hmap, hsb] at hb ⊢
    rcases hb with g | g | g | g
    ·exact .inl (.inl g)
    ·exact .inl (.inr (.inl g))
    ·exact .inr (by have := g5 b g; omega)
    ·exact .inl (.inr (.inr (.inr g)))
  ·have hlt : i < L.length := by omega
   have hs := List.getElem?_eq_getElem hlt
   simp (maxSteps := 2000000) -implicitDefEqProofs (disch := (first | omega | rfl | assumption | (simp only [rsD]; first | omega | assumption))) only [Nat.reduceAdd, Nat.reduceMul, Nat.reduceLT, Int.reduceToNat, Int.reduceAdd, Int.reduceSub, Int.reduceMul, rsU, rsC]
   refine Ok_some.2 ⟨rfl, sa, L, L[i], hC, hs, ?_, fun x => ?_, Chg.refl _ _, Fp.refl _ _⟩
   ·have := hfree.here L[i].v (by rw [e, List.getElem?_map, hs]; rfl)
    exact this
   ·rw [putAt, if_pos (by omega), e]
 rintro ⟨q, J1⟩ ⟨g0, sa', L', s, hC1, hs, hop, hput, hch, hfp⟩
 simp only at g0 hC1 hch
 subst g0
 obtain ⟨el1, hm1⟩ := hC1.m
 obtain ⟨k, rfl, hk, hk', _, _⟩ := hC1.at hs
 have hkn := hC1.n1 k (by simp [SA.bk])
 have kmb := hkn.1
 have ktb := hkn.2
 have hm1lt := hC1.mlt
 have hilt := (List.getElem?_eq_some_iff.1 hs).1
 have hl2 := fm_len Sp.len L'
 have hcnt : 0 <= M.count := by rw [hM.count]; omega
 have hsp : splice (L'.flatMap Sp.cells) (i * 2) [.sl (.loc (.n J1.next) 0 1) n.toNat, .b true] = (L'.set i ⟨.loc (.n J1.next) 0 1, true, List.replicate n.toNat 0⟩).flatMap Sp.cells := by
  have := fm_splice Sp.len L' i 0 [.sl (.loc (.n J1.next) 0 1) n.toNat, .b true] s ⟨.loc (.n J1.next) 0 1, true, List.replicate n.toNat 0⟩ hs (by simp) (by simp [splice, Sp.cells])
  simpa using this
 simp (maxSteps := 2000000) -implicitDefEqProofs (disch := (first | omega | rfl | assumption | (simp only [rsD]; first | omega | assumption))) only [hm1, hk, u64s_rep, hl2, hsp, Nat.reduceAdd, Nat.reduceMul, Nat.reduceLT, Int.reduceToNat, Int.reduceAdd, Int.reduceSub, Int.reduceMul, rsU, rsC]
 obtain ⟨q1, q2⟩ := hC1.repl (J' := (((J1.bump 1).put J1.next (.cells true T_uint64 (u64s (List.replicate n.toNat 0)))).put k (.cells true T_mem_space ((L'.set i ⟨.loc (.n J1.next) 0 1, true, List.replicate n.toNat 0⟩).flatMap Sp.cells))).put mb (.cells true el1 [.p (some (.n tb, 0)), .sl (.loc (.n k) 0 2) L'.length, .i .i64 ((i : Int) + 1), .i .i64 (M.count + 1)]))
  hs (s' := ⟨.loc (.n J1.next) 0 1, true, List.replicate n.toNat 0⟩) rfl (by simp) (fun b hb h1 h2 => by
   have := hC1.flt b hb
   rw [s_bn h2, s_bn h1, s_bn (by omega)]; rfl) (by rw [s_bn kmb, s_bs]) ⟨_, by rw [s_bs]⟩
  ⟨n.toNat, OwnS.new (by simp [u64s_len]) (by rw [s_bn (by omega), s_bn (by omega), s_bs]) (by simp)⟩ (by simp [SA.bk])
 have hq := Chg.put (L := memF mb tb (.loc (.n k) 0 2) L') (Chg.put (L := memF mb tb (.loc (.n k) 0 2) L') (Chg.put (((Chg.refl _ J1).bump 1)) (.inr (Nat.le_refl _)) (.cells true T_uint64 (u64s (List.replicate n.toNat 0)))) (b := k) (.inl (by simp [memF, SA.bk])) (.cells true T_mem_space ((L'.set i ⟨.loc (.n J1.next) 0 1, true, List.replicate n.toNat 0⟩).flatMap Sp.cells))) (b := mb) (.inl (by simp [memF])) (.cells true el1 [.p (some (.n tb, 0)), .sl (.loc (.n k) 0 2) L'.length, .i .i64 ((i : Int) + 1), .i .i64 (M.count + 1)])
 generalize hJ2 : (((J1.bump 1).put J1.next (.cells true T_uint64 (u64s (List.replicate n.toNat 0)))).put k (.cells true T_mem_space ((L'.set i ⟨.loc (.n J1.next) 0 1, true, List.replicate n.toNat 0⟩).flatMap Sp.cells))).put mb (.cells true el1 [.p (some (.n tb, 0)), .sl (.loc (.n k) 0 2) L'.length, .i .i64 ((i : Int) + 1), .i .i64 (M.count + 1)]) = J2 at q1 hq
 have n1 := hch.next
 have n2 := hq.next
 refine Ok.step (hold_ok q1.met hM.met h1 hroom) fun r ⟨g1, g2, g3⟩ => ?_
 obtain ⟨q, J3⟩ := r
 simp only at g1 g2 g3
 subst g1
 simp (maxSteps := 2000000) -implicitDefEqProofs (disch := (first | omega | rfl | assumption | (simp only [rsD]; first | omega | assumption))) only [Nat.reduceAdd, Nat.reduceMul, Nat.reduceLT, Int.reduceToNat, Int.reduceAdd, Int.reduceSub, Int.reduceMul, rsU, rsC]
 refine Ok_some.2 ⟨i, hfree, rfl, _, ⟨tb, _, _, rfl, ?_, q1.step g3 g2⟩, ?_, fun b hb => ?_⟩
 ·show putAt M.sp i _ = _
  rw [<- hput, List.map_set]; rfl
 ·refine (hch.trans' hq fun b hb => hfp b hb).trans' g3 fun b hb => .inl ?_
  simp at hb; subst hb; simp [memF]
 ·rcases q2 b hb with g | g
  ·exact hfp b g
  ·exact .inr (by omega)
theorem open_bad {J : AH O} {mb : Nat} {F : List Nat} {M : MemS} {n : Int} (h : MemAt J mb F M) (h1 : n < 0 ∨ n > 4194304 ∨ M.count >= 262144) :
  qb0 [.p (some (.n mb, 0)), .i .i64 n] J = some (.tup [.i .i64 0, .i .i64 (if n < 0 then 1 else if n > 4194304 then 7 else 3)], J) := by
 obtain ⟨tb, sa, L, rfl, e, hC⟩ := h
 obtain ⟨el', hm⟩ := hC.m
 by_cases c1 : n < 0
 ·simp (maxSteps := 2000000) -implicitDefEqProofs (disch := (first | omega | rfl | assumption | (simp only [rsD]; first | omega | assumption))) only [qb0, qbz, hm, Nat.reduceAdd, Nat.reduceMul, Nat.reduceLT, Int.reduceToNat, Int.reduceAdd, Int.reduceSub, Int.reduceMul, rsU, rsC]
  rw [if_pos c1]
 ·by_cases c2 : n > 4194304
  ·simp (maxSteps := 2000000) -implicitDefEqProofs (disch := (first | omega | rfl | assumption | (simp only [rsD]; first | omega | assumption))) only [qb0, qbz, hm, Nat.reduceAdd, Nat.reduceMul, Nat.reduceLT, Int.reduceToNat, Int.reduceAdd, Int.reduceSub, Int.reduceMul, rsU, rsC]
   rw [if_neg c1, if_pos c2]
  ·simp (maxSteps := 2000000) -implicitDefEqProofs (disch := (first | omega | rfl | assumption | (simp only [rsD]; first | omega | assumption))) only [qb0, qbz, hm, Nat.reduceAdd, Nat.reduceMul, Nat.reduceLT, Int.reduceToNat, Int.reduceAdd, Int.reduceSub, Int.reduceMul, rsU, rsC]
   rw [if_neg c1, if_neg c2]
end Go.Abs.Tryz
namespace Go.Abs.Tryz
open Go Go.Abs
variable {O : Type}
theorem cnt_set {α : Type} {p : α -> Bool} {l : List α} {i : Nat} {x y : α} (h : l[i]? = some y) : (l.set i x).countP p + (if p y = true then 1 else 0) = l.countP p + (if p x = true then 1 else 0) := by
 induction l generalizing i with
 | nil => simp at h
 | cons z l ih =>
  cases i with
  | zero => simp at h; subst h; simp only [List.set_cons_zero, List.countP_cons]; omega
  | succ i => simp at h; have := ih h; simp only [List.set_cons_succ, List.countP_cons]; omega
theorem MemS.new_ok : MemS.new.ok := ⟨⟨by decide, by decide, by decide, by decide⟩, by decide, fun i hi s hs => by simp [MemS.new] at hs, rfl, by decide, fun s hs => by simp [MemS.new] at hs, fun s hs => by simp [MemS.new] at hs, rfl⟩
theorem MemS.ok.cnt {M : MemS} (h : M.ok) : 0 <= M.count /\ M.count <= 262144 := by
 rw [h.count]
 have := List.countP_le_length (p := fun s : Bool × List Int => s.1) (l := M.sp)
 have := h.few
 omega
theorem mem_set' {α : Type} {l : List α} {i : Nat} {x y : α} (h : y ∈ l.set i x) : y = x ∨ y ∈ l := by
 rcases List.mem_or_eq_of_mem_set h with g | g
 ·exact .inr g
 ·exact .inl g
theorem get_set {α : Type} {l : List α} {i j : Nat} {x y : α} (h : (l.set i x)[j]? = some y) : (j = i /\ y = x) ∨ (j ≠ i /\ l[j]? = some y) := by
 rw [List.getElem?_set] at h
 split at h
 ·rename_i hij
  split at h
  ·cases h; exact .inl ⟨hij.symm, rfl⟩
  ·cases h
 ·rename_i hij; exact .inr ⟨fun e => hij e.symm, h⟩
theorem MemS.put_ok {M : MemS} (h : M.ok) {i : Nat} {w w' : List Int} (hw : M.sp[i]? = some (true, w)) (hl : w'.length = w.length) : (M.put i w').ok := by
 refine ⟨h.met, by simpa [MemS.put] using h.low, fun j hj s hs => ?_, ?_, by simpa [MemS.put] using h.few, fun s hs => ?_, fun s hs he => ?_, ?_⟩
 ·rcases get_set hs with ⟨_, rfl⟩ | ⟨_, g⟩
  ·rfl
  ·exact h.below j hj s g
 ·have := cnt_set (p := fun s : Bool × List Int => s.1) (x := (true, w')) hw
  simp only [if_true] at this
  simp only [MemS.put]
  rw [h.count]; omega
 ·rcases mem_set' hs with rfl | g
  ·simp only [hl]; exact h.len hw
  ·exact h.size s g
 ·rcases mem_set' hs with rfl | g
  ·cases he
  ·exact h.shut s g he
 ·have : ((M.sp.map fun s => s.2.length))[i]? = some w.length := by rw [List.getElem?_map, hw]; rfl
  have := sum_set (x := w'.length) this
  simp only [MemS.put, List.map_set]
  rw [h.held]; omega
theorem MemS.wr_ok {M : MemS} (h : M.ok) {n : Int} (h0 : 0 <= n) (hn : M.met.w + n < 170141183460469231731687303715884105728) : (M.wr n).ok :=
 ⟨⟨h.met.r, ⟨by have := h.met.w; simp only [MemS.wr]; omega, hn⟩, h.met.held, h.met.high⟩, h.low, h.below, h.count, h.few, h.size, h.shut, h.held⟩
theorem MemS.rd_ok {M : MemS} (h : M.ok) {n : Int} (h0 : 0 <= n) (hn : M.met.r + n < 170141183460469231731687303715884105728) : (M.rd n).ok :=
 ⟨⟨⟨by have := h.met.r; simp only [MemS.rd]; omega, hn⟩, h.met.w, h.met.held, h.met.high⟩, h.low, h.below, h.count, h.few, h.size, h.shut, h.held⟩
theorem Met.hold_ok {m : Met} (h : m.ok) {n : Int} (h0 : 0 <= n) (hn : m.held + n <= 281474976710656) : (m.hold n).ok :=
 ⟨h.r, h.w, by have := h.held; simp only [Met.hold]; omega, by have := h.high; simp only [Met.hold]; omega⟩
theorem MemS.grow_okS {M : MemS} (h : M.ok) {i : Nat} {w : List Int} (hw : M.sp[i]? = some (true, w)) {n : Int} (h1 : (w.length : Int) <= n) (h2 : n <= 4194304) : (M.grow i w n).ok := by
 refine ⟨Met.hold_ok h.met (by omega) (grow_room h hw h1 h2), by simpa [MemS.grow] using h.low, fun j hj s hs => ?_, ?_, by simpa [MemS.grow] using h.few, fun s hs => ?_, fun s hs he => ?_, ?_⟩
 ·rcases get_set hs with ⟨_, rfl⟩ | ⟨_, g⟩
  ·rfl
  ·exact h.below j hj s g
 ·have := cnt_set (p := fun s : Bool × List Int => s.1) (x := (true, w ++ List.replicate (n.toNat - w.length) 0)) hw
  simp only [if_true] at this
  simp only [MemS.grow]
  rw [h.count]; omega
 ·rcases mem_set' hs with rfl | g
  ·simp only [List.length_append, List.length_replicate]; omega
  ·exact h.size s g
 ·rcases mem_set' hs with rfl | g
  ·cases he
  ·exact h.shut s g he
 ·have : ((M.sp.map fun s => s.2.length))[i]? = some w.length := by rw [List.getElem?_map, hw]; rfl
  have := sum_set (x := (w ++ List.replicate (n.toNat - w.length) 0).length) this
  simp only [List.length_append, List.length_replicate] at this
  simp only [MemS.grow, List.map_set, Met.hold, List.length_append, List.length_replicate]
  rw [h.held]; omega
theorem putAt_get {l : List (Bool × List Int)} {i : Nat} {x : Bool × List Int} (hi : i <= l.length) (j : Nat) : (putAt l i x)[j]? = if j = i then some x else l[j]? := by
 unfold putAt
 by_cases h : i < l.length
 ·rw [if_pos h, List.getElem?_set]
  by_cases hj : i = j
  ·subst hj; simp [h]
  ·simp [hj, Ne.symm hj]
 ·obtain rfl : i = l.length := by omega
  rw [if_neg h, List.getElem?_append]
  by_cases hj : j < l.length
  ·rw [if_pos hj, if_neg (by omega)]
  ·rw [if_neg hj]
   by_cases hj' : j = l.length
   ·subst hj'; simp
   ·rw [if_neg hj', List.getElem?_eq_none (by simp; omega), List.getElem?_eq_none (by omega)]
theorem putAt_mem {l : List (Bool × List Int)} {i : Nat} {x y : Bool × List Int} (h : y ∈ putAt l i x) : y = x ∨ y ∈ l := by
 unfold putAt at h
 split at h
 ·exact mem_set' h
 ·simp at h; exact h.symm
theorem MemS.opn_ok {M : MemS} (h : M.ok) {i : Nat} (hf : Free M.sp i) {n : Int} (h1 : 0 <= n) (h2 : n <= 4194304) (h3 : M.count < 262144) : (M.opn i n).ok := by
 have hcl : (putAt M.sp i (true, List.replicate n.toNat 0)).countP (·.1) = M.sp.countP (·.1) + 1 /\ ((putAt M.sp i (true, List.replicate n.toNat 0)).map fun s => s.2.length).sum = (M.sp.map fun s => s.2.length).sum + n.toNat /\ (putAt M.sp i (true, List.replicate n.toNat 0)).length <= 262144 /\ i < (putAt M.sp i (true, List.replicate n.toNat 0)).length := by
  unfold putAt
  by_cases hi : i < M.sp.length
  ·rw [if_pos hi]
   have hs := List.getElem?_eq_getElem hi
   have ho := hf.here _ hs
   have hw := h.shut _ (List.mem_of_getElem? hs) ho
   have g1 := cnt_set (p := fun s : Bool × List Int => s.1) (x := (true, List.replicate n.toNat 0)) hs
   simp only [ho, if_true, Bool.false_eq_true, if_false] at g1
   have : ((M.sp.map fun s => s.2.length))[i]? = some 0 := by rw [List.getElem?_map, hs, Option.map_some, hw]; rfl
   have g2 := sum_set (x := (List.replicate n.toNat (0 : Int)).length) this
   simp only [List.length_replicate] at g2
   refine ⟨by omega, by rw [List.map_set]; simp only [List.length_replicate]; omega, by rw [List.length_set]; exact h.few, by simpa using hi⟩
  ·rw [if_neg hi]
   have hle := hf.le
   have hall : M.sp.countP (·.1) = M.sp.length := by
    rw [List.countP_eq_length]
    intro s hs
    obtain ⟨j, hj⟩ := List.getElem?_of_mem hs
    have := (List.getElem?_eq_some_iff.1 hj).1
    obtain ⟨w, hw⟩ := hf.below j (by omega)
    rw [hj] at hw; cases hw; rfl
   have hc := h.count
   refine ⟨by simp, by simp, by simp; omega, by simp; omega⟩
 obtain ⟨c1, c2, c3, c4⟩ := hcl
 have hlow := h.low
 have hb := h.bound
 refine ⟨Met.hold_ok h.met h1 (by omega), ⟨by simp only [MemS.opn]; omega, by simp only [MemS.opn]; omega⟩, fun j hj s hs => ?_, by simp only [MemS.opn]; rw [c1, h.count]; omega, c3, fun s hs => ?_, fun s hs he => ?_, ?_⟩
 ·simp only [MemS.opn] at hj hs
  rw [putAt_get hf.le] at hs
  split at hs
  ·cases hs; rfl
  ·obtain ⟨w, hw⟩ := hf.below j (by omega)
   rw [hw] at hs; cases hs; rfl
 ·rcases putAt_mem hs with rfl | g
  ·simp; omega
  ·exact h.size s g
 ·rcases putAt_mem hs with rfl | g
  ·cases he
  ·exact h.shut s g he
 ·simp only [MemS.opn, Met.hold, c2]
  rw [h.held]; omega
theorem MemAt.meter {J : AH O} {mb : Nat} {F : List Nat} {M : MemS} (h : MemAt J mb F M) : ∃ tb el rest, J.blk mb = some (.cells true el (.p (some (.n tb, 0)) :: rest)) /\ MetAt J tb M.met := by
 obtain ⟨tb, sa, L, rfl, e, hC⟩ := h
 obtain ⟨el, hm⟩ := hC.m
 exact ⟨tb, el, _, hm, hC.met⟩
theorem Fp.new {F F' : List Nat} {J0 J : AH O} (h : Fp F F' J) (hn : J0.next <= J.next) (hF : ∀ b ∈ F, J0.next <= b) : ∀ b ∈ F', J0.next <= b := fun b hb => by
 rcases h b hb with g | g
 ·exact hF b g
 ·omega
theorem MemAt.mlt {J : AH O} {mb : Nat} {F : List Nat} {M : MemS} (h : MemAt J mb F M) : mb < J.next := by
 obtain ⟨tb, sa, L, rfl, e, hC⟩ := h
 exact hC.mlt
end Go.Abs.Tryz
set_option linter.unusedSectionVars false
namespace Go.Abs.Tryz
open Go Go.Abs
variable {O : Type}
abbrev Sps := List (Bool × List Int)
def ff (l : Sps) : Nat := l.findIdx fun s => !s.1
theorem ff_free (l : Sps) : Free l (ff l) := by
 refine ⟨List.findIdx_le_length, fun j hj => ?_, fun s hs => ?_⟩
 ·have hlt : j < l.length := Nat.lt_of_lt_of_le hj List.findIdx_le_length
  have := List.not_of_lt_findIdx hj
  simp only [Bool.not_eq_true, Bool.not_eq_false'] at this
  exact ⟨l[j].2, by rw [List.getElem?_eq_getElem hlt]; congr 1; exact Prod.ext this rfl⟩
 ·have hlt := (List.getElem?_eq_some_iff.1 hs).1
  have h1 := List.findIdx_getElem (w := hlt)
  have e : l[ff l]'hlt = s := (List.getElem?_eq_some_iff.1 hs).2
  rw [<- e]
  simp only [Bool.not_eq_true'] at h1
  exact h1
def wordsOf (l : Sps) (id : Int) : Option (List Int) := if 0 <= id then (match l[id.toNat]? with | some (true, w) => some w | _ => none) else none
theorem wordsOf_some {l : Sps} {id : Int} {w : List Int} (h : wordsOf l id = some w) : 0 <= id /\ l[id.toNat]? = some (true, w) := by
 unfold wordsOf at h
 split at h
 ·rename_i h0
  split at h
  ·rename_i hw; cases h; exact ⟨h0, hw⟩
  ·cases h
 ·cases h
theorem wordsOf_none {l : Sps} {id : Int} (h : wordsOf l id = none) : ¬ isOp l id := by
 rintro ⟨h0, w, hw⟩
 simp [wordsOf, h0, hw] at h
theorem wordsOf_mk {l : Sps} {id : Int} {w : List Int} (h0 : 0 <= id) (h : l[id.toNat]? = some (true, w)) : wordsOf l id = some w := by simp [wordsOf, h0, h]
def MemS.opnR (M : MemS) (n : Int) : MemS × Int × Int := if n < 0 then (M, 0, 1) else if n > 4194304 then (M, 0, 7) else if M.count >= 262144 then (M, 0, 3) else (M.opn (ff M.sp) n, ff M.sp, 0)
def MemS.growR (M : MemS) (id n : Int) : MemS × Int := match wordsOf M.sp id with | none => (M, 10) | some w => if n < w.length then (M, 1) else if n > 4194304 then (M, 7) else (M.grow id.toNat w n, 0)
def wrongR (l : Sps) (id at_ n : Int) : Int := match wordsOf l id with | none => 10 | some w => if n < 0 ∨ at_ < 0 ∨ at_ > w.length ∨ n > w.length - at_ then 11 else 0
def MemS.readR (M : MemS) (id at_ : Int) : MemS × Int × Int := if wrongR M.sp id at_ 1 = 0 then (M.rd 1, ((wordsOf M.sp id).getD []).getD at_.toNat 0, 0) else (M, 0, wrongR M.sp id at_ 1)
def MemS.writeR (M : MemS) (id at_ x : Int) : MemS × Int := if wrongR M.sp id at_ 1 = 0 then ((M.wr 1).put id.toNat (((wordsOf M.sp id).getD []).set at_.toNat x), 0) else (M, wrongR M.sp id at_ 1)
def MemS.zeroR (M : MemS) (id at_ n : Int) : MemS × Int := if wrongR M.sp id at_ n = 0 then ((M.wr n).put id.toNat (patched ((wordsOf M.sp id).getD []) at_.toNat (List.replicate n.toNat 0)), 0) else (M, wrongR M.sp id at_ n)
def MemS.copyR (M : MemS) (fr at_ to de n : Int) : MemS × Int :=
 if wrongR M.sp fr at_ n = 10 ∨ wrongR M.sp to de n = 10 then (M, 10)
 else if wrongR M.sp fr at_ n ≠ 0 ∨ wrongR M.sp to de n ≠ 0 then (M, 11)
 else (((M.rd n).wr n).put to.toNat (patched ((wordsOf M.sp to).getD []) de.toNat ((((wordsOf M.sp fr).getD []).drop at_.toNat).take n.toNat)), 0)
theorem wrong_0 {l : Sps} {id at_ n : Int} (h : wrongR l id at_ n = 0) : ∃ w, wordsOf l id = some w /\ 0 <= n /\ 0 <= at_ /\ at_ + n <= w.length := by
 unfold wrongR at h
 split at h
 ·omega
 ·rename_i w hw
  split at h
  ·omega
  ·exact ⟨w, hw, by omega, by omega, by omega⟩
theorem wrong_10 {l : Sps} {id at_ n : Int} : wrongR l id at_ n = 10 ↔ wordsOf l id = none := by
 unfold wrongR
 split
 ·rename_i h; simp [h]
 ·rename_i w hw
  split <;> simp [hw]
theorem wrong_11 {l : Sps} {id at_ n : Int} (h : wrongR l id at_ n ≠ 0) (h' : wordsOf l id ≠ none) : wrongR l id at_ n = 11 /\ ∃ w, wordsOf l id = some w /\ (n < 0 ∨ at_ < 0 ∨ at_ > w.length ∨ n > w.length - at_) := by
 unfold wrongR at h ⊢
 split
 ·rename_i hw; exact absurd hw h'
 ·rename_i w hw
  rw [hw] at h
  simp only at h
  split at h
  ·rename_i hc; exact ⟨by rw [if_pos hc], w, hw, hc⟩
  ·exact absurd rfl h
structure Behind (J : AH O) (mb : Nat) (F : List Nat) (M' : MemS) (J' : AH O) : Prop where
 ex : ∃ F', MemAt J' mb F' M' /\ Fp F F' J
 chg : Chg F J J'
 ok : M'.ok
theorem Behind.refl {J : AH O} {mb : Nat} {F : List Nat} {M : MemS} (h : MemAt J mb F M) (hM : M.ok) : Behind J mb F M J := ⟨⟨F, h, Fp.refl _ _⟩, Chg.refl _ _, hM⟩
structure MemS.calm (M : MemS) : Prop where
 r : M.met.r < 85070591730234615865843651857942052864
 w : M.met.w < 85070591730234615865843651857942052864
section
variable {J : AH O} {mb : Nat} {F : List Nat} {M : MemS} (h : MemAt J mb F M) (hM : M.ok) (hc : M.calm)
include h hM hc
theorem openT {n : Int} : Ok (qb0 [.p (some (.n mb, 0)), .i .i64 n] J) fun r => r.1 = .tup [.i .i64 (M.opnR n).2.1, .i .i64 (M.opnR n).2.2] /\ Behind J mb F (M.opnR n).1 r.2 := by
 by_cases hb : n < 0 ∨ n > 4194304 ∨ M.count >= 262144
 ·refine Ok_of (open_bad h hb) ?_
  have : M.opnR n = (M, 0, if n < 0 then 1 else if n > 4194304 then 7 else 3) := by
   unfold MemS.opnR; repeat' split
   all_goals first | rfl | omega
  rw [this]
  exact ⟨rfl, .refl h hM⟩
 ·have h1 : 0 <= n := by omega
  have h2 : n <= 4194304 := by omega
  have h3 : M.count < 262144 := by omega
  have : M.opnR n = (M.opn (ff M.sp) n, (ff M.sp : Int), 0) := by
   unfold MemS.opnR; rw [if_neg (by omega), if_neg (by omega), if_neg (by omega)]
  rw [this]
  refine (open_ok h hM h1 h2 h3).mono fun r ⟨i, hf, g1, F', g2, g3, g4⟩ => ?_
  obtain rfl := hf.uniq (ff_free M.sp)
  exact ⟨g1, ⟨F', g2, g4⟩, g3, MemS.opn_ok hM hf h1 h2 h3⟩
theorem growT {id n : Int} : Ok (qff [.p (some (.n mb, 0)), .i .i64 id, .i .i64 n] J) fun r => r.1 = .i .i64 (M.growR id n).2 /\ Behind J mb F (M.growR id n).1 r.2 := by
 unfold MemS.growR
 cases hw : wordsOf M.sp id with
 | none => exact Ok_of (grow_no h (wordsOf_none hw)) ⟨rfl, .refl h hM⟩
 | some w =>
  obtain ⟨h0, hw⟩ := wordsOf_some hw
  simp only
  by_cases c1 : n < w.length
  ·rw [if_pos c1]
   refine Ok_of (grow_bad h h0 hw (.inl c1)) ⟨?_, .refl h hM⟩
   rw [if_pos c1]
  ·rw [if_neg c1]
   by_cases c2 : n > 4194304
   ·rw [if_pos c2]
    refine Ok_of (grow_bad h h0 hw (.inr c2)) ⟨?_, .refl h hM⟩
    rw [if_neg c1]
   ·rw [if_neg c2]
    exact (grow_ok h hM h0 hw (by omega) (by omega)).mono fun r ⟨g1, F', g2, g3, g4⟩ => ⟨g1, ⟨F', g2, g4⟩, g3, MemS.grow_okS hM hw (by omega) (by omega)⟩
theorem readT {id at_ : Int} (ha : -9223372036854775808 <= at_ /\ at_ <= 9223372036854775807) : Ok (qgo [.p (some (.n mb, 0)), .i .i64 id, .i .i64 at_] J) fun r => r.1 = .tup [.i .u64 (M.readR id at_).2.1, .i .i64 (M.readR id at_).2.2] /\ Behind J mb F (M.readR id at_).1 r.2 := by
 unfold MemS.readR
 have hr := hc.r
 by_cases hz : wrongR M.sp id at_ 1 = 0
 ·rw [if_pos hz]
  obtain ⟨w, hw, h1, h2, h3⟩ := wrong_0 hz
  obtain ⟨h0, hw'⟩ := wordsOf_some hw
  have hlt : at_.toNat < w.length := by omega
  have hx := List.getElem?_eq_getElem hlt
  simp only [hw, Option.getD_some, List.getD_eq_getElem?_getD, hx]
  exact (read_ok h hM h0 hw' h2 hx).mono fun r ⟨g1, g2, g3⟩ => ⟨g1, ⟨F, g2, Fp.refl _ _⟩, g3, MemS.rd_ok hM (by omega) (by omega)⟩
 ·rw [if_neg hz]
  by_cases hn : wordsOf M.sp id = none
  ·rw [wrong_10.2 hn]
   exact Ok_of (read_no h (wordsOf_none hn)) ⟨rfl, .refl h hM⟩
  ·obtain ⟨e, w, hw, hb⟩ := wrong_11 hz hn
   obtain ⟨h0, hw'⟩ := wordsOf_some hw
   rw [e]
   exact Ok_of (read_out h hM h0 hw' ha (by omega)) ⟨rfl, .refl h hM⟩
theorem writeT {id at_ x : Int} (ha : -9223372036854775808 <= at_ /\ at_ <= 9223372036854775807) : Ok (qgj [.p (some (.n mb, 0)), .i .i64 id, .i .i64 at_, .i .u64 x] J) fun r => r.1 = .i .i64 (M.writeR id at_ x).2 /\ Behind J mb F (M.writeR id at_ x).1 r.2 := by
 unfold MemS.writeR
 have hr := hc.w
 by_cases hz : wrongR M.sp id at_ 1 = 0
 ·rw [if_pos hz]
  obtain ⟨w, hw, h1, h2, h3⟩ := wrong_0 hz
  obtain ⟨h0, hw'⟩ := wordsOf_some hw
  simp only [hw, Option.getD_some]
  exact (write_ok h hM h0 hw' h2 (by omega)).mono fun r ⟨g1, g2, g3⟩ => ⟨g1, ⟨F, g2, Fp.refl _ _⟩, g3, MemS.put_ok (MemS.wr_ok hM (by omega) (by omega)) hw' (by simp)⟩
 ·rw [if_neg hz]
  by_cases hn : wordsOf M.sp id = none
  ·rw [wrong_10.2 hn]
   exact Ok_of (write_no h (wordsOf_none hn)) ⟨rfl, .refl h hM⟩
  ·obtain ⟨e, w, hw, hb⟩ := wrong_11 hz hn
   obtain ⟨h0, hw'⟩ := wordsOf_some hw
   rw [e]
   exact Ok_of (write_out h hM h0 hw' ha (by omega)) ⟨rfl, .refl h hM⟩
theorem zeroT {id at_ n : Int} (ha : -9223372036854775808 <= at_ /\ at_ <= 9223372036854775807) : Ok (qgt [.p (some (.n mb, 0)), .i .i64 id, .i .i64 at_, .i .i64 n] J) fun r => r.1 = .i .i64 (M.zeroR id at_ n).2 /\ Behind J mb F (M.zeroR id at_ n).1 r.2 := by
 unfold MemS.zeroR
 have hr := hc.w
 by_cases hz : wrongR M.sp id at_ n = 0
 ·rw [if_pos hz]
  obtain ⟨w, hw, h1, h2, h3⟩ := wrong_0 hz
  obtain ⟨h0, hw'⟩ := wordsOf_some hw
  have := hM.len hw'
  simp only [hw, Option.getD_some]
  exact (zero_ok h hM h0 hw' h2 h1 h3).mono fun r ⟨g1, g2, g3⟩ => ⟨g1, ⟨F, g2, Fp.refl _ _⟩, g3, MemS.put_ok (MemS.wr_ok hM (by omega) (by omega)) hw' (patched_len (by simp; omega))⟩
 ·rw [if_neg hz]
  by_cases hn : wordsOf M.sp id = none
  ·rw [wrong_10.2 hn]
   exact Ok_of (zero_no h (wordsOf_none hn)) ⟨rfl, .refl h hM⟩
  ·obtain ⟨e, w, hw, hb⟩ := wrong_11 hz hn
   obtain ⟨h0, hw'⟩ := wordsOf_some hw
   rw [e]
   exact Ok_of (zero_out h hM h0 hw' ha hb) ⟨rfl, .refl h hM⟩
theorem withinT {id at_ n : Int} (ha : -9223372036854775808 <= at_ /\ at_ <= 9223372036854775807) : ∃ a' m, qfu [.p (some (.n mb, 0)), .i .i64 id, .i .i64 at_, .i .i64 n] J = some (.tup [.sl a' m, .i .i64 (wrongR M.sp id at_ n)], J) := by
 obtain ⟨tb, sa, L, rfl, e, hC⟩ := h
 by_cases hz : wrongR M.sp id at_ n = 0
 ·obtain ⟨w, hw, h1, h2, h3⟩ := wrong_0 hz
  obtain ⟨h0, hw'⟩ := wordsOf_some hw
  obtain ⟨s, hs, ho, rfl⟩ := getW e hw'
  obtain ⟨a', _, g⟩ := within_ok (n := n) hC h0 hs ho (hM.len hw') h1 h2 h3
  exact ⟨a', _, by rw [hz]; exact g⟩
 ·by_cases hn : wordsOf M.sp id = none
  ·have := wordsOf_none hn
   rw [e] at this
   exact ⟨.nil, 0, by rw [wrong_10.2 hn]; exact within_no hC this⟩
  ·obtain ⟨e', w, hw, hb⟩ := wrong_11 hz hn
   obtain ⟨h0, hw'⟩ := wordsOf_some hw
   obtain ⟨s, hs, ho, rfl⟩ := getW e hw'
   exact ⟨.nil, 0, by rw [e']; exact within_out hC h0 hs ho (hM.len hw') ha hb⟩
theorem copyT {fr at_ to de n : Int} (ha : -9223372036854775808 <= at_ /\ at_ <= 9223372036854775807) (hd : -9223372036854775808 <= de /\ de <= 9223372036854775807) : Ok (qo8 [.p (some (.n mb, 0)), .i .i64 fr, .i .i64 at_, .i .i64 to, .i .i64 de, .i .i64 n] J) fun r => r.1 = .i .i64 (M.copyR fr at_ to de n).2 /\ Behind J mb F (M.copyR fr at_ to de n).1 r.2 := by
 unfold MemS.copyR
 have hr := hc.w
 have hr' := hc.r
 by_cases hs : wrongR M.sp fr at_ n = 10 ∨ wrongR M.sp to de n = 10
 ·rw [if_pos hs]
  obtain ⟨a1, m1, w1⟩ := withinT (id := fr) (n := n) h hM hc ha
  obtain ⟨a2, m2, w2⟩ := withinT (id := to) (n := n) h hM hc hd
  refine ⟨(.i .i64 10, J), ?_, rfl, .refl h hM⟩
  by_cases c1 : wrongR M.sp fr at_ n = 10
  ·simp (maxSteps := 2000000) -implicitDefEqProofs (disch := (first | omega | rfl | assumption | (simp only [rsD]; first | omega | assumption))) only [qo8, qo7, w1, w2, Nat.reduceAdd, Nat.reduceMul, Nat.reduceLT, Int.reduceToNat, Int.reduceAdd, Int.reduceSub, Int.reduceMul, rsU, rsC]
  ·have c2 := hs.resolve_left c1
   simp (maxSteps := 2000000) -implicitDefEqProofs (disch := (first | omega | rfl | assumption | (simp only [rsD]; first | omega | assumption))) only [qo8, qo7, w1, w2, Nat.reduceAdd, Nat.reduceMul, Nat.reduceLT, Int.reduceToNat, Int.reduceAdd, Int.reduceSub, Int.reduceMul, rsU, rsC]
 ·rw [if_neg hs]
  by_cases hz : wrongR M.sp fr at_ n ≠ 0 ∨ wrongR M.sp to de n ≠ 0
  ·rw [if_pos hz]
   obtain ⟨a1, m1, w1⟩ := withinT (id := fr) (n := n) h hM hc ha
   obtain ⟨a2, m2, w2⟩ := withinT (id := to) (n := n) h hM hc hd
   have d1 : wrongR M.sp fr at_ n ≠ 10 := fun e => hs (.inl e)
   have d2 : wrongR M.sp to de n ≠ 10 := fun e => hs (.inr e)
   refine ⟨(.i .i64 11, J), ?_, rfl, .refl h hM⟩
   by_cases c1 : wrongR M.sp fr at_ n = 0
   ·have c2 := hz.resolve_left (fun hh => hh c1)
    simp (maxSteps := 2000000) -implicitDefEqProofs (disch := (first | omega | rfl | assumption | (simp only [rsD]; first | omega | assumption))) only [qo8, qo7, w1, w2, Nat.reduceAdd, Nat.reduceMul, Nat.reduceLT, Int.reduceToNat, Int.reduceAdd, Int.reduceSub, Int.reduceMul, rsU, rsC]
   ·simp (maxSteps := 2000000) -implicitDefEqProofs (disch := (first | omega | rfl | assumption | (simp only [rsD]; first | omega | assumption))) only [qo8, qo7, w1, w2, Nat.reduceAdd, Nat.reduceMul, Nat.reduceLT, Int.reduceToNat, Int.reduceAdd, Int.reduceSub, Int.reduceMul, rsU, rsC]
  ·rw [if_neg hz]
   have z1 : wrongR M.sp fr at_ n = 0 := by omega
   have z2 : wrongR M.sp to de n = 0 := by omega
   obtain ⟨w, hw, h1, h2, h3⟩ := wrong_0 z1
   obtain ⟨h0, hw'⟩ := wordsOf_some hw
   obtain ⟨v, hv, k1, k2, k3⟩ := wrong_0 z2
   obtain ⟨k0, hv'⟩ := wordsOf_some hv
   have := hM.len hw'
   simp only [hw, hv, Option.getD_some]
   exact (copy_ok h hM h0 hw' h2 h1 h3 k0 hv' k2 k3).mono fun r ⟨g1, g2, g3⟩ => ⟨g1, ⟨F, g2, Fp.refl _ _⟩, g3, MemS.put_ok (MemS.wr_ok (MemS.rd_ok hM (by omega) (by omega)) (by omega) (by simp only [MemS.rd]; omega)) hv' (patched_len (by simp; omega))⟩
end
end Go.Abs.Tryz
set_option maxHeartbeats 2000000
namespace Go.Abs.Tryz
open Go Go.Abs
variable {O : Type}
def MemIn (J : AH O) (mb : Nat) (M : MemS) (X : List Nat) : Prop := ∃ F, MemAt J mb F M /\ M.ok /\ ∀ b ∈ X, b < J.next /\ b ∉ F
structure Keep (X : List Nat) (J J' : AH O) : Prop where
 next : J.next <= J'.next
 blk : ∀ b ∈ X, J'.blk b = J.blk b
theorem Keep.refl (X : List Nat) (J : AH O) : Keep X J J := ⟨Nat.le_refl _, fun _ _ => rfl⟩
theorem Keep.trans {X : List Nat} {J J' J'' : AH O} (h : Keep X J J') (k : Keep X J' J'') : Keep X J J'' := ⟨Nat.le_trans h.next k.next, fun b hb => (k.blk b hb).trans (h.blk b hb)⟩
theorem Keep.mono {X Y : List Nat} {J J' : AH O} (h : Keep X J J') (hs : ∀ b ∈ Y, b ∈ X) : Keep Y J J' := ⟨h.next, fun b hb => h.blk b (hs b hb)⟩
theorem Keep.tail {b : Nat} {X : List Nat} {J J' : AH O} (h : Keep (b :: X) J J') : Keep X J J' := h.mono fun _ => List.mem_cons_of_mem _
theorem Keep.head {b : Nat} {X : List Nat} {J J' : AH O} (h : Keep (b :: X) J J') : J'.blk b = J.blk b := h.blk b List.mem_cons_self
section
variable {J : AH O} {mb : Nat} {M : MemS} {X : List Nat} (h : MemIn J mb M X)
include h
theorem MemIn.ok : M.ok := by obtain ⟨F, _, h, _⟩ := h; exact h
theorem MemIn.lt : ∀ b ∈ X, b < J.next := fun b hb => by obtain ⟨F, _, _, h⟩ := h; exact (h b hb).1
theorem MemIn.mlt : mb < J.next := by obtain ⟨F, h, _⟩ := h; exact h.mlt
theorem MemIn.mono {Y : List Nat} (hs : ∀ b ∈ Y, b ∈ X) : MemIn J mb M Y := by obtain ⟨F, h1, h2, h3⟩ := h; exact ⟨F, h1, h2, fun b hb => h3 b (hs b hb)⟩
theorem MemIn.chg {J' : AH O} {L : List Nat} (hc : Chg L J J') (hl : ∀ b ∈ L, b ∈ X ∨ J.next <= b) : MemIn J' mb M X := by
 obtain ⟨F, h1, h2, h3⟩ := h
 exact ⟨F, h1.chg hc fun b hb hm => by
  rcases hl b hm with g | g
  ·exact (h3 b g).2 hb
  ·have := h1.lt b hb; omega, h2, fun b hb => ⟨Nat.lt_of_lt_of_le (h3 b hb).1 hc.next, (h3 b hb).2⟩⟩
theorem MemIn.ext {J' : AH O} (hc : Ext J J') : MemIn J' mb M X := h.chg (L := []) hc.chg (by simp)
theorem MemIn.new {J' : AH O} (hc : Ext J J') {b : Nat} (h1 : J.next <= b) (h2 : b < J'.next) : MemIn J' mb M (b :: X) := by
 obtain ⟨F, g1, g2, g3⟩ := h
 refine ⟨F, g1.ext hc, g2, fun c hm => ?_⟩
 rcases List.mem_cons.1 hm with rfl | hm
 ·exact ⟨h2, fun hm => by have := g1.lt c hm; omega⟩
 ·exact ⟨Nat.lt_of_lt_of_le (g3 c hm).1 hc.next, (g3 c hm).2⟩
theorem MemIn.keep {J' : AH O} {L : List Nat} (hc : Chg L J J') (hl : ∀ b ∈ L, b ∉ X) : Keep X J J' := ⟨hc.next, fun b hb => hc.blk b (h.lt b hb) fun hm => hl b hm hb⟩
theorem MemIn.put {b : Nat} (hb : b ∈ X) (x : Blk O) : MemIn (J.put b x) mb M X := h.chg (L := [b]) ⟨by simp, fun c hc hm => s_bn (by simpa using hm)⟩ fun c hc => .inl (by simp at hc; rw [hc]; exact hb)
theorem MemIn.keepExt {J' : AH O} (hc : Ext J J') : Keep X J J' := ⟨hc.next, fun b hb => hc.blk b (h.lt b hb)⟩
theorem MemIn.behind {F : List Nat} {M' : MemS} {J' : AH O} (hb : ∀ F, MemAt J mb F M -> Behind J mb F M' J') : MemIn J' mb M' X /\ Keep X J J' := by
 obtain ⟨F, g1, g2, g3⟩ := h
 obtain ⟨⟨F', k1, k2⟩, k3, k4⟩ := hb F g1
 exact ⟨⟨F', k1, k4, fun b hb => ⟨Nat.lt_of_lt_of_le (g3 b hb).1 k3.next, fun hm => by
  rcases k2 b hm with g | g
  ·exact (g3 b hb).2 g
  ·have := (g3 b hb).1; omega⟩⟩, k3.next, fun b hb => k3.blk b (g3 b hb).1 (g3 b hb).2⟩
end
theorem MemIn.tail {J : AH O} {mb : Nat} {M : MemS} {b : Nat} {Y : List Nat} (h : MemIn J mb M (b :: Y)) : MemIn J mb M Y := h.mono fun _ => List.mem_cons_of_mem _
theorem Keep.put {X : List Nat} {J : AH O} {b : Nat} (hb : b ∉ X) (x : Blk O) : Keep X J (J.put b x) := ⟨by simp, fun c hc => s_bn fun e => hb (e ▸ hc)⟩
theorem Keep.bump (X : List Nat) (J : AH O) (k : Nat) : Keep X J (J.bump k) := ⟨by simp, fun _ _ => rfl⟩
theorem wrongZ {l : Sps} {id at_ n : Int} {w : List Int} (hw : wordsOf l id = some w) (h0 : 0 <= at_) (h1 : 0 <= n) (h2 : at_ + n <= w.length) : wrongR l id at_ n = 0 := by
 unfold wrongR
 rw [hw]
 simp only []
 rw [if_neg (by omega)]
theorem MemIn.turn {J J' : AH O} {mb : Nat} {M : MemS} {X Y L : List Nat} (h : MemIn J mb M X) (hc : Chg L J J') (hl : ∀ b ∈ L, b ∈ X ∨ J.next <= b) (hY : ∀ b ∈ Y, b ∈ X ∨ (J.next <= b /\ b < J'.next)) : MemIn J' mb M Y := by
 obtain ⟨F, h1, h2, h3⟩ := h
 refine ⟨F, h1.chg hc fun b hb hm => ?_, h2, fun b hb => ?_⟩
 ·rcases hl b hm with g | g
  ·exact (h3 b g).2 hb
  ·have := h1.lt b hb; omega
 ·rcases hY b hb with g | ⟨g, g'⟩
  ·exact ⟨Nat.lt_of_lt_of_le (h3 b g).1 hc.next, (h3 b g).2⟩
  ·exact ⟨g', fun hm => by have := h1.lt b hm; omega⟩
structure Wrt (M M' : MemS) (id : Int) (w' : List Int) (dr dw : Int) : Prop where
 sp : M'.sp = M.sp.set id.toNat (true, w')
 r : M'.met.r = M.met.r + dr
 w : M'.met.w = M.met.w + dw
theorem wordsOf_other {l : Sps} {id id2 : Int} {x : Bool × List Int} (hne : id2 ≠ id) (h0 : 0 <= id) : wordsOf (l.set id.toNat x) id2 = wordsOf l id2 := by
 unfold wordsOf
 by_cases h : 0 <= id2
 ·rw [if_pos h, if_pos h, List.getElem?_set, if_neg (by omega)]
 ·rw [if_neg h, if_neg h]
theorem Wrt.other {M M' : MemS} {id id2 : Int} {w' : List Int} {dr dw : Int} (h : Wrt M M' id w' dr dw) (h0 : 0 <= id) (hne : id2 ≠ id) : wordsOf M'.sp id2 = wordsOf M.sp id2 := by rw [h.sp]; exact wordsOf_other hne h0
theorem Wrt.words {M M' : MemS} {id : Int} {w w' : List Int} {dr dw : Int} (h : Wrt M M' id w' dr dw) (hw : wordsOf M.sp id = some w) : wordsOf M'.sp id = some w' := by
 obtain ⟨h0, h1⟩ := wordsOf_some hw
 rw [h.sp]
 exact wordsOf_mk h0 (by rw [List.getElem?_set]; simp [(List.getElem?_eq_some_iff.1 h1).1])
theorem Wrt.trans {M M' M'' : MemS} {id : Int} {w w' : List Int} {a b c d : Int} (h : Wrt M M' id w a b) (k : Wrt M' M'' id w' c d) : Wrt M M'' id w' (a + c) (b + d) :=
 ⟨by rw [k.sp, h.sp, List.set_set], by rw [k.r, h.r]; omega, by rw [k.w, h.w]; omega⟩
theorem Wrt.refl {M : MemS} {id : Int} {w : List Int} (hw : wordsOf M.sp id = some w) : Wrt M M id w 0 0 := by
 obtain ⟨h0, h1⟩ := wordsOf_some hw
 refine ⟨?_, by omega, by omega⟩
 apply List.ext_getElem?
 intro j
 rw [List.getElem?_set]
 split
 ·rename_i hij; subst hij
  have := (List.getElem?_eq_some_iff.1 h1).1
  rw [h1]; simp [this]
 ·rfl
theorem Wrt.as {M M' : MemS} {id : Int} {w w' : List Int} {a b c d : Int} (h : Wrt M M' id w a b) (h1 : w = w') (h2 : a = c) (h3 : b = d) : Wrt M M' id w' c d := by subst h1; subst h2; subst h3; exact h
theorem Wrt.len {M M' : MemS} {id : Int} {w' : List Int} {dr dw : Int} (h : Wrt M M' id w' dr dw) : M'.sp.length = M.sp.length := by rw [h.sp, List.length_set]
section
variable {J : AH O} {mb : Nat} {M : MemS} {X : List Nat} (h : MemIn J mb M X) (hc : M.calm) {id : Int} {w : List Int} (hw : wordsOf M.sp id = some w)
include h hw
theorem MemIn.wlen : w.length <= 4194304 := h.ok.len (wordsOf_some hw).2
theorem sizeX : qih [.p (some (.n mb, 0)), .i .i64 id] J = some (.tup [.i .i64 (w.length : Int), .i .i64 0], J) := by
 obtain ⟨F, h1, _⟩ := h
 obtain ⟨h0, hw⟩ := wordsOf_some hw
 exact size_ok h1 h0 hw
include hc
theorem readX {at_ : Int} (h0 : 0 <= at_) (h1 : at_ < w.length) : Ok (qgo [.p (some (.n mb, 0)), .i .i64 id, .i .i64 at_] J) fun r => r.1 = .tup [.i .u64 (w.getD at_.toNat 0), .i .i64 0] /\ ∃ M', MemIn r.2 mb M' X /\ Wrt M M' id w 1 0 /\ Keep X J r.2 := by
 have hl := h.wlen hw
 have hR : M.readR id at_ = (M.rd 1, w.getD at_.toNat 0, 0) := by
  unfold MemS.readR
  rw [wrongZ hw h0 (by decide) (by omega), hw]; rfl
 have key : ∀ F, MemAt J mb F M -> Ok (qgo [.p (some (.n mb, 0)), .i .i64 id, .i .i64 at_] J) fun r => r.1 = .tup [.i .u64 (w.getD at_.toNat 0), .i .i64 0] /\ Behind J mb F (M.rd 1) r.2 := fun F hF => by
  have := readT (id := id) (at_ := at_) hF h.ok hc (by omega)
  rw [hR] at this; exact this
 have hh := h
 obtain ⟨F, g1, _⟩ := hh
 obtain ⟨r, e, p1, _⟩ := key F g1
 refine ⟨r, e, p1, M.rd 1, ?_⟩
 obtain ⟨q1, q2⟩ := h.behind (F := F) (J' := r.2) (M' := M.rd 1) fun F hF => by
  obtain ⟨r', e', _, b⟩ := key F hF
  rw [e] at e'; cases e'; exact b
 exact ⟨q1, ⟨(Wrt.refl hw).sp, rfl, by simp [MemS.rd]⟩, q2⟩
theorem writeX {at_ x : Int} (h0 : 0 <= at_) (h1 : at_ < w.length) : Ok (qgj [.p (some (.n mb, 0)), .i .i64 id, .i .i64 at_, .i .u64 x] J) fun r => r.1 = .i .i64 0 /\ ∃ M', MemIn r.2 mb M' X /\ Wrt M M' id (w.set at_.toNat x) 0 1 /\ Keep X J r.2 := by
 have hl := h.wlen hw
 have hR : M.writeR id at_ x = ((M.wr 1).put id.toNat (w.set at_.toNat x), 0) := by
  unfold MemS.writeR
  rw [wrongZ hw h0 (by decide) (by omega), hw]; rfl
 have key : ∀ F, MemAt J mb F M -> Ok (qgj [.p (some (.n mb, 0)), .i .i64 id, .i .i64 at_, .i .u64 x] J) fun r => r.1 = .i .i64 0 /\ Behind J mb F ((M.wr 1).put id.toNat (w.set at_.toNat x)) r.2 := fun F hF => by
  have := writeT (id := id) (at_ := at_) (x := x) hF h.ok hc (by omega)
  rw [hR] at this; exact this
 have hh := h
 obtain ⟨F, g1, _⟩ := hh
 obtain ⟨r, e, p1, _⟩ := key F g1
 refine ⟨r, e, p1, (M.wr 1).put id.toNat (w.set at_.toNat x), ?_⟩
 obtain ⟨q1, q2⟩ := h.behind (F := F) (J' := r.2) fun F hF => by
  obtain ⟨r', e', _, b⟩ := key F hF
  rw [e] at e'; cases e'; exact b
 exact ⟨q1, ⟨rfl, by simp [MemS.put, MemS.wr], rfl⟩, q2⟩
theorem zeroX {at_ n : Int} (h0 : 0 <= at_) (hn : 0 <= n) (h1 : at_ + n <= w.length) : Ok (qgt [.p (some (.n mb, 0)), .i .i64 id, .i .i64 at_, .i .i64 n] J) fun r => r.1 = .i .i64 0 /\ ∃ M', MemIn r.2 mb M' X /\ Wrt M M' id (patched w at_.toNat (List.replicate n.toNat 0)) 0 n /\ Keep X J r.2 := by
 have hl := h.wlen hw
 have hR : M.zeroR id at_ n = ((M.wr n).put id.toNat (patched w at_.toNat (List.replicate n.toNat 0)), 0) := by
  unfold MemS.zeroR
  rw [wrongZ hw h0 hn h1, hw]; rfl
 have key : ∀ F, MemAt J mb F M -> Ok (qgt [.p (some (.n mb, 0)), .i .i64 id, .i .i64 at_, .i .i64 n] J) fun r => r.1 = .i .i64 0 /\ Behind J mb F ((M.wr n).put id.toNat (patched w at_.toNat (List.replicate n.toNat 0))) r.2 := fun F hF => by
  have := zeroT (id := id) (at_ := at_) (n := n) hF h.ok hc (by omega)
  rw [hR] at this; exact this
 have hh := h
 obtain ⟨F, g1, _⟩ := hh
 obtain ⟨r, e, p1, _⟩ := key F g1
 refine ⟨r, e, p1, (M.wr n).put id.toNat (patched w at_.toNat (List.replicate n.toNat 0)), ?_⟩
 obtain ⟨q1, q2⟩ := h.behind (F := F) (J' := r.2) fun F hF => by
  obtain ⟨r', e', _, b⟩ := key F hF
  rw [e] at e'; cases e'; exact b
 exact ⟨q1, ⟨rfl, by simp [MemS.put, MemS.wr], rfl⟩, q2⟩
theorem growX {n : Int} (h1 : (w.length : Int) <= n) (h2 : n <= 4194304) : Ok (qff [.p (some (.n mb, 0)), .i .i64 id, .i .i64 n] J) fun r => r.1 = .i .i64 0 /\ ∃ M', MemIn r.2 mb M' X /\ Wrt M M' id (w ++ List.replicate (n.toNat - w.length) 0) 0 0 /\ Keep X J r.2 := by
 have hR : M.growR id n = (M.grow id.toNat w n, 0) := by
  unfold MemS.growR
  rw [hw]
  simp only
  rw [if_neg (by omega), if_neg (by omega)]
 have key : ∀ F, MemAt J mb F M -> Ok (qff [.p (some (.n mb, 0)), .i .i64 id, .i .i64 n] J) fun r => r.1 = .i .i64 0 /\ Behind J mb F (M.grow id.toNat w n) r.2 := fun F hF => by
  have := growT (id := id) (n := n) hF h.ok hc
  rw [hR] at this; exact this
 have hh := h
 obtain ⟨F, g1, _⟩ := hh
 obtain ⟨r, e, p1, _⟩ := key F g1
 refine ⟨r, e, p1, M.grow id.toNat w n, ?_⟩
 obtain ⟨q1, q2⟩ := h.behind (F := F) (J' := r.2) fun F hF => by
  obtain ⟨r', e', _, b⟩ := key F hF
  rw [e] at e'; cases e'; exact b
 exact ⟨q1, ⟨rfl, by simp [MemS.grow, Met.hold], by simp [MemS.grow, Met.hold]⟩, q2⟩
end
theorem openX {J : AH O} {mb : Nat} {M : MemS} {X : List Nat} (h : MemIn J mb M X) (hc : M.calm) {n : Int} (h1 : 0 <= n) (h2 : n <= 4194304) (h3 : M.count < 262144) :
  Ok (qb0 [.p (some (.n mb, 0)), .i .i64 n] J) fun r => r.1 = .tup [.i .i64 (ff M.sp), .i .i64 0] /\ MemIn r.2 mb (M.opn (ff M.sp) n) X /\ Keep X J r.2 := by
 have hR : M.opnR n = (M.opn (ff M.sp) n, (ff M.sp : Int), 0) := by
  unfold MemS.opnR
  rw [if_neg (by omega), if_neg (by omega), if_neg (by omega)]
 have key : ∀ F, MemAt J mb F M -> Ok (qb0 [.p (some (.n mb, 0)), .i .i64 n] J) fun r => r.1 = .tup [.i .i64 (ff M.sp), .i .i64 0] /\ Behind J mb F (M.opn (ff M.sp) n) r.2 := fun F hF => by
  have := openT (n := n) hF h.ok hc
  rw [hR] at this; exact this
 have hh := h
 obtain ⟨F, g1, _⟩ := hh
 obtain ⟨r, e, p1, _⟩ := key F g1
 refine ⟨r, e, p1, ?_⟩
 exact h.behind (F := F) (J' := r.2) fun F hF => by
  obtain ⟨r', e', _, b⟩ := key F hF
  rw [e] at e'; cases e'; exact b
theorem opn_words {M : MemS} {n : Int} : wordsOf (M.opn (ff M.sp) n).sp (ff M.sp) = some (List.replicate n.toNat 0) := by
 refine wordsOf_mk (Int.natCast_nonneg _) ?_
 show (putAt M.sp (ff M.sp) _)[(ff M.sp : Int).toNat]? = _
 rw [putAt_get (ff_free M.sp).le, Int.toNat_natCast, if_pos rfl]
theorem opn_other {M : MemS} {n id : Int} {w : List Int} (h : wordsOf M.sp id = some w) : wordsOf (M.opn (ff M.sp) n).sp id = some w /\ id ≠ ff M.sp := by
 obtain ⟨h0, h1⟩ := wordsOf_some h
 have hne : id.toNat ≠ ff M.sp := fun e => by
  rw [e] at h1
  have := (ff_free M.sp).here _ h1
  cases this
 refine ⟨wordsOf_mk h0 ?_, by omega⟩
 show (putAt M.sp (ff M.sp) _)[id.toNat]? = _
 rw [putAt_get (ff_free M.sp).le, if_neg hne]; exact h1
theorem newX {J : AH O} {X : List Nat} (hX : ∀ b ∈ X, b < J.next) : Ok (qbk [] J) fun r => r.1 = .p (some (.n J.next, 0)) /\ MemIn r.2 J.next MemS.new X /\ Ext J r.2 := by
 refine memNew_ok.mono fun r ⟨F, g1, g2, g3, g4⟩ => ⟨g1, ⟨F, g2, MemS.new_ok, fun b hb => ⟨Nat.lt_of_lt_of_le (hX b hb) g3.next, fun hm => ?_⟩⟩, g3⟩
 have := hX b hb
 have := g4 b hm
 omega
end Go.Abs.Tryz
