/-
  Layers 14 and 16: the near space and the store over both kinds of objects: what is read, written and taken. No conditions.
-/
import Derived.Test.YtncohicmiihjiaaGreatM15
import Derived.Test.YtncohicmiihjiaaGreatM12
set_option linter.unusedVariables false
set_option linter.unusedSimpArgs false
set_option linter.constructorNameAsVariable false
set_option linter.unusedSimpArgs false
set_option linter.unusedVariables false
set_option linter.unusedSectionVars false
set_option maxHeartbeats 1000000
namespace Go.Abs.Tryz
open Go Go.Abs
variable {O : Type}
structure StoS where
 id : Int
 ws : List Int
 top : Nat
 old : List AV
 small : Int
def StoS.near (T : StoS) (mb : Nat) : List AV := .p (some (.n mb, 0)) :: .i .i64 T.id :: .i .i64 (T.top : Int) :: T.old
structure StoAt (J : AH O) (sb nb lb pb mb : Nat) (M : MemS) (S : PoolS) (w : List Int) (L : LarS) (T : StoS) (X : List Nat) (Y : List Int) : Prop where
 l : LarAt J lb pb mb M S w L (nb :: sb :: X) (T.id :: Y)
 n : ∃ el, J.blk nb = some (.cells true el (T.near mb))
 s : ∃ el, J.blk sb = some (.cells true el [.p (some (.n mb, 0)), .p (some (.n nb, 0)), .p (some (.n lb, 0)), .i .i64 T.small])
 now : wordsOf M.sp T.id = some T.ws
 top : T.top <= T.ws.length
 nd : nb ≠ sb /\ nb ∉ X /\ sb ∉ X
 oY : T.id ∉ Y
theorem Objs.side {M M' : MemS} {V : Nat -> Option (Int × Int × Int)} {sid : Int} {ob : Nat -> Option (List Int)} {ep : Int} {H : List Nat} {Y : List Int} {id : Int} (h : Objs M V sid ob ep H (id :: Y)) (hw : ∀ y v, y ≠ id -> wordsOf M.sp y = some v -> wordsOf M'.sp y = some v) (hid : wordsOf M'.sp id ≠ none) : Objs M' V sid ob ep H (id :: Y) :=
 ⟨h.non, fun i ws ho => by
  obtain ⟨sp, mk, a1, a2, a3, a4, a5, a6, a7⟩ := h.at_ i ws ho
  exact ⟨sp, mk, a1, a2, a3, a4, hw sp ws (fun e => a7 (by simp [e])) a5, a6, a7⟩, h.apart, fun y hy => ⟨by
  by_cases e : y = id
  ·rw [e]; exact hid
  ·obtain ⟨g1, g2⟩ := h.others y hy
   cases hv : wordsOf M.sp y with
   | none => exact absurd hv g1
   | some v => rw [hw y v e hv]; simp, (h.others y hy).2⟩⟩
theorem within_side (J : AH O) (id top at_ : Int) (h0 : -4611686018427387904 <= top /\ top <= 4611686018427387904) (h1 : -9223372036854775808 <= at_ /\ at_ <= 9223372036854775807) : Ok (qka [.agg [.i .i64 id, .i .i64 top], .i .i64 at_, .i .i64 1] J) fun r => r.1 = .b (decide (0 <= at_ /\ at_ < top)) /\ Ext J r.2 := by
 by_cases c1 : 0 <= at_
 ·by_cases c2 : at_ <= top
  ·simp (maxSteps := 2000000) -implicitDefEqProofs (disch := (first | omega | rfl | assumption | (simp only [rsD]; first | omega | assumption))) only [qka, qj9, ge_iff_le, Nat.reduceAdd, Nat.reduceMul, Nat.reduceLT, Int.reduceToNat, Int.reduceAdd, Int.reduceSub, Int.reduceMul, rsU, rsC]
   exact Ok_some.2 ⟨by show AV.b _ = AV.b _; congr 1; exact decide_eq_decide.2 (by omega), (ext_of (by simp only [put_next, bump_next, kill_next]; omega) (fun b hb => by simp -implicitDefEqProofs (disch := (first | omega | rfl | assumption | (simp only [rsD]; first | omega | assumption))) only [s_bn, s_kn, bump_blk, s_ext]))⟩
  ·simp (maxSteps := 2000000) -implicitDefEqProofs (disch := (first | omega | rfl | assumption | (simp only [rsD]; first | omega | assumption))) only [qka, qj9, ge_iff_le, Nat.reduceAdd, Nat.reduceMul, Nat.reduceLT, Int.reduceToNat, Int.reduceAdd, Int.reduceSub, Int.reduceMul, rsU, rsC]
   exact Ok_some.2 ⟨by show AV.b _ = AV.b _; congr 1 <;> first | exact (decide_eq_false (by omega)).symm | exact decide_eq_decide.2 (by omega), (ext_of (by simp only [put_next, bump_next, kill_next]; omega) (fun b hb => by simp -implicitDefEqProofs (disch := (first | omega | rfl | assumption | (simp only [rsD]; first | omega | assumption))) only [s_bn, s_kn, bump_blk, s_ext]))⟩
 ·simp (maxSteps := 2000000) -implicitDefEqProofs (disch := (first | omega | rfl | assumption | (simp only [rsD]; first | omega | assumption))) only [qka, qj9, ge_iff_le, Nat.reduceAdd, Nat.reduceMul, Nat.reduceLT, Int.reduceToNat, Int.reduceAdd, Int.reduceSub, Int.reduceMul, rsU, rsC]
  exact Ok_some.2 ⟨by show AV.b _ = AV.b _; congr 1 <;> first | exact (decide_eq_false (by omega)).symm | exact decide_eq_decide.2 (by omega), (ext_of (by simp only [put_next, bump_next, kill_next]; omega) (fun b hb => by simp -implicitDefEqProofs (disch := (first | omega | rfl | assumption | (simp only [rsD]; first | omega | assumption))) only [s_bn, s_kn, bump_blk, s_ext]))⟩
section
variable {J : AH O} {sb nb lb pb mb : Nat} {M : MemS} {S : PoolS} {w : List Int} {L : LarS} {T : StoS} {X : List Nat} {Y : List Int} (h : StoAt J sb nb lb pb mb M S w L T X Y)
include h
theorem StoAt.nlt : nb < J.next := h.l.lX nb (by simp)
theorem StoAt.slt : sb < J.next := h.l.lX sb (by simp)
theorem StoAt.tl : T.ws.length <= 4194304 := h.l.p.mi.wlen h.now
theorem StoAt.lt : ∀ b ∈ X, b < J.next := fun b hb => h.l.lX b (by simp [hb])
theorem StoAt.ext {J' : AH O} (e : Ext J J') : StoAt J' sb nb lb pb mb M S w L T X Y :=
 { h with l := h.l.ext e, n := by obtain ⟨el, hn⟩ := h.n; exact ⟨el, (e.blk _ h.nlt).trans hn⟩, s := by obtain ⟨el, hs⟩ := h.s; exact ⟨el, (e.blk _ h.slt).trans hs⟩ }
theorem StoAt.larged {J' : AH O} {M' : MemS} {S' : PoolS} {w' : List Int} {L' : LarS} {k a c : Int} (l : LarAt J' lb pb mb M' S' w' L' (nb :: sb :: X) (T.id :: Y)) (b : Beh (T.id :: Y) M M' k a c) (kp : Keep (nb :: sb :: X) J J') : StoAt J' sb nb lb pb mb M' S' w' L' T X Y :=
 { h with l := l, n := by obtain ⟨el, hn⟩ := h.n; exact ⟨el, (kp.blk _ (by simp)).trans hn⟩, s := by obtain ⟨el, hs⟩ := h.s; exact ⟨el, (kp.blk _ (by simp)).trans hs⟩, now := (b.keep _ (by simp)).trans h.now }
theorem StoAt.neared {J' : AH O} {M' : MemS} {ws : List Int} (hi : MemIn J' mb M' (pb :: lb :: nb :: sb :: X)) (kp : Keep (pb :: lb :: nb :: sb :: X) J J') (hw : ∀ y v, y ≠ T.id -> wordsOf M.sp y = some v -> wordsOf M'.sp y = some v) (hn : wordsOf M'.sp T.id = some ws) (hl : ws.length = T.ws.length) : StoAt J' sb nb lb pb mb M' S w L { T with ws := ws } X Y := by
 have hne : S.id ≠ T.id := (h.l.o.others T.id (by simp)).2.symm
 obtain ⟨el, hb⟩ := h.l.b
 obtain ⟨el2, hb2⟩ := h.n
 obtain ⟨el3, hb3⟩ := h.s
 exact { l := { h.l with p := { h.l.p with mi := hi, b := (kp.blk _ (by simp)).trans h.l.p.b, now := hw _ _ hne h.l.p.now }, b := ⟨el, (kp.blk _ (by simp)).trans hb⟩, o := h.l.o.side hw (by rw [hn]; simp) }, n := ⟨el2, (kp.blk _ (by simp)).trans hb2⟩, s := ⟨el3, (kp.blk _ (by simp)).trans hb3⟩, now := hn, top := by rw [hl]; exact h.top, nd := h.nd, oY := h.oY }
theorem ssize_ok : qjv [.p (some (.n nb, 0))] J = some (.i .i64 (T.ws.length : Int), J) := by
 obtain ⟨el, hn⟩ := h.n
 simp only [StoS.near] at hn
 simp (maxSteps := 2000000) -implicitDefEqProofs (disch := (first | omega | rfl | assumption | (simp only [rsD]; first | omega | assumption))) only [qjv, qju, hn, sizeX h.l.p.mi h.now, Nat.reduceAdd, Nat.reduceMul, Nat.reduceLT, Int.reduceToNat, Int.reduceAdd, Int.reduceSub, Int.reduceMul, rsU, rsC]
theorem stake_ok {n : Nat} (h1 : 1 <= n) (hn : T.top + n <= T.ws.length) : Ok (qj5 [.p (some (.n nb, 0)), .i .i64 (n : Int)] J) fun r => r.1 = .tup [.i .i64 (T.top : Int), .i .i64 0] /\ StoAt r.2 sb nb lb pb mb M S w L { T with top := T.top + n } X Y /\ Keep X J r.2 := by
 obtain ⟨el, hb⟩ := h.n
 obtain ⟨el2, hb2⟩ := h.s
 simp only [StoS.near] at hb
 have htl := h.tl
 have htp := h.top
 simp (maxSteps := 2000000) -implicitDefEqProofs (disch := (first | omega | rfl | assumption | (simp only [rsD]; first | omega | assumption))) only [qj5, qj4, qj0, qjz, hb, ssize_ok h, Nat.reduceAdd, Nat.reduceMul, Nat.reduceLT, Int.reduceToNat, Int.reduceAdd, Int.reduceSub, Int.reduceMul, rsU, rsC]
 refine Ok_some.2 ⟨rfl, ⟨?_, ⟨el, s_bs.trans (by simp only [StoS.near]; rw [Int.natCast_add])⟩, ⟨el2, (s_bn h.nd.1.symm).trans hb2⟩, h.now, hn, h.nd, h.oY⟩, Keep.put h.nd.2.1 _⟩
 exact h.l.turn (K := [nb]) ⟨by simp, fun c hc hm => s_bn (by simpa using hm)⟩ (fun c hc => .inl (by simp at hc; simp [hc])) (fun b hb => .inl hb)
variable (hf : M.far 100)
include hf
theorem sread_ok {at_ : Int} (ha : 0 <= at_ /\ at_ < T.top) : Ok (qlo [.p (some (.n nb, 0)), .i .i64 at_] J) fun r => r.1 = .tup [.i .u64 (T.ws.getD at_.toNat 0), .i .i64 0] /\ ∃ M', StoAt r.2 sb nb lb pb mb M' S w L T X Y /\ Beh Y M M' 1 0 0 /\ M'.met.r + M'.met.w = M.met.r + M.met.w + 1 /\ Keep X J r.2 := by
 obtain ⟨el, hb⟩ := h.n
 simp only [StoS.near] at hb
 have htl := h.tl
 have htp := h.top
 simp (maxSteps := 2000000) -implicitDefEqProofs (disch := (first | omega | rfl | assumption | (simp only [rsD]; first | omega | assumption))) only [qlo, qln, hb, Nat.reduceAdd, Nat.reduceMul, Nat.reduceLT, Int.reduceToNat, Int.reduceAdd, Int.reduceSub, Int.reduceMul, rsU, rsC]
 refine Ok.step (within_side J T.id T.top at_ (by omega) (by omega)) fun r ⟨g1, g2⟩ => ?_
 obtain ⟨q, J1⟩ := r
 simp only at g1 g2
 rw [decide_eq_true ha] at g1
 subst g1
 have h1 := h.ext g2
 have hb1 := (g2.blk _ h.nlt).trans hb
 simp (maxSteps := 2000000) -implicitDefEqProofs (disch := (first | omega | rfl | assumption | (simp only [rsD]; first | omega | assumption))) only [hb1, Nat.reduceAdd, Nat.reduceMul, Nat.reduceLT, Int.reduceToNat, Int.reduceAdd, Int.reduceSub, Int.reduceMul, rsU, rsC]
 refine Ok.step (readXT h1.l.p.mi (hf.calm (by decide)) (id := T.id) (at_ := at_) (by omega)) fun r ⟨k1, k2, k3⟩ => ?_
 obtain ⟨q, J2⟩ := r
 rw [readR_of h.now, if_pos (by omega)] at k1 k2
 simp only at k1 k2 k3
 subst k1
 simp (maxSteps := 2000000) -implicitDefEqProofs (disch := (first | omega | rfl | assumption | (simp only [rsD]; first | omega | assumption))) only [Nat.reduceAdd, Nat.reduceMul, Nat.reduceLT, Int.reduceToNat, Int.reduceAdd, Int.reduceSub, Int.reduceMul, rsU, rsC]
 have hnear := h1.neared (ws := T.ws) k2 k3 (fun y v _ hv => hv) h.now rfl
 exact Ok_some.2 ⟨rfl, M.rd 1, hnear, Beh.rd, by simp only [MemS.rd]; omega, ((h.l.p.mi.keepExt g2).trans k3).mono fun b hb => by simp [hb]⟩
theorem swrite_ok {at_ x : Int} (ha : 0 <= at_ /\ at_ < T.top) : Ok (qkf [.p (some (.n nb, 0)), .i .i64 at_, .i .u64 x] J) fun r => r.1 = .i .i64 0 /\ ∃ M', StoAt r.2 sb nb lb pb mb M' S w L { T with ws := T.ws.set at_.toNat x } X Y /\ Beh Y M M' 1 0 0 /\ M'.met.r + M'.met.w = M.met.r + M.met.w + 1 /\ Keep X J r.2 := by
 obtain ⟨el, hb⟩ := h.n
 simp only [StoS.near] at hb
 have htl := h.tl
 have htp := h.top
 simp (maxSteps := 2000000) -implicitDefEqProofs (disch := (first | omega | rfl | assumption | (simp only [rsD]; first | omega | assumption))) only [qkf, qke, hb, Nat.reduceAdd, Nat.reduceMul, Nat.reduceLT, Int.reduceToNat, Int.reduceAdd, Int.reduceSub, Int.reduceMul, rsU, rsC]
 refine Ok.step (within_side J T.id T.top at_ (by omega) (by omega)) fun r ⟨g1, g2⟩ => ?_
 obtain ⟨q, J1⟩ := r
 simp only at g1 g2
 rw [decide_eq_true ha] at g1
 subst g1
 have h1 := h.ext g2
 have hb1 := (g2.blk _ h.nlt).trans hb
 simp (maxSteps := 2000000) -implicitDefEqProofs (disch := (first | omega | rfl | assumption | (simp only [rsD]; first | omega | assumption))) only [hb1, Nat.reduceAdd, Nat.reduceMul, Nat.reduceLT, Int.reduceToNat, Int.reduceAdd, Int.reduceSub, Int.reduceMul, rsU, rsC]
 refine Ok.step (writeXT h1.l.p.mi (hf.calm (by decide)) (id := T.id) (at_ := at_) (x := x) (by omega)) fun r ⟨k1, k2, k3⟩ => ?_
 obtain ⟨q, J2⟩ := r
 rw [writeR_of h.now, if_pos (by omega)] at k1 k2
 simp only at k1 k2 k3
 subst k1
 simp (maxSteps := 2000000) -implicitDefEqProofs (disch := (first | omega | rfl | assumption | (simp only [rsD]; first | omega | assumption))) only [Nat.reduceAdd, Nat.reduceMul, Nat.reduceLT, Int.reduceToNat, Int.reduceAdd, Int.reduceSub, Int.reduceMul, rsU, rsC]
 have h0 := (wordsOf_some h.now).1
 have hnear := h1.neared (ws := T.ws.set at_.toNat x) k2 k3 (fun y v hy hv => (wordsOf_other hy h0).trans hv) (wordsOf_mk h0 (by simp [MemS.put, MemS.wr, (List.getElem?_eq_some_iff.1 (wordsOf_some h.now).2).1])) (by simp)
 exact Ok_some.2 ⟨rfl, _, hnear, Beh.wrp h0 h.oY, by simp only [MemS.wr, MemS.put]; omega, ((h.l.p.mi.keepExt g2).trans k3).mono fun b hb => by simp [hb]⟩
end
end Go.Abs.Tryz
namespace Go.Abs.Tryz
open Go Go.Abs
variable {O : Type}
theorem and1 {n : Nat} (h : n < 2 ^ 64) : ibits .and .u64 (n : Int) 1 = ((n % 2 : Nat) : Int) := by
 show IntKind.u64.wrap (((BitVec.ofInt 64 (n : Int) &&& BitVec.ofInt 64 1).toNat : Nat) : Int) = _
 rw [BitVec.toNat_and, bv_nat (by omega) (by omega), bv_nat (by decide) (by decide), Int.toNat_natCast, show (1 : Int).toNat = 2 ^ 1 - 1 from rfl, Nat.and_two_pow_sub_one_eq_mod]
 exact s_u64 (by omega)
theorem or1 {n : Nat} (h : n < 2 ^ 63) : ibits .or .u64 ((2 * n : Nat) : Int) 1 = ((2 * n + 1 : Nat) : Int) := by
 show IntKind.u64.wrap (((BitVec.ofInt 64 ((2 * n : Nat) : Int) ||| BitVec.ofInt 64 1).toNat : Nat) : Int) = _
 rw [BitVec.toNat_or, bv_nat (by omega) (by omega), bv_nat (by decide) (by decide), Int.toNat_natCast]
 have := Nat.two_pow_add_eq_or_of_lt (i := 1) (b := 1) (by decide) n
 rw [show (1 : Int).toNat = 1 from rfl, show 2 * n = 2 ^ 1 * n from rfl, <- this]
 exact s_u64 (by omega)
def rsm (at_ : Nat) : Int := ((2 * at_ + 1 : Nat) : Int)
def rlg (i : Nat) : Int := ((2 * (i + 1) : Nat) : Int)
theorem tosmall_ok (J : AH O) {at_ : Nat} (h : at_ < 4194304) : qkk [.i .i64 (at_ : Int)] J = some (.tup [.i .u64 (rsm at_), .i .i64 0], J) := by
 have e : IntKind.u64.wrap ((at_ : Int) * 2 ^ 1) = ((2 * at_ : Nat) : Int) := by rw [s_u64 (by omega)]; omega
 simp (maxSteps := 2000000) -implicitDefEqProofs (disch := (first | omega | rfl | assumption | (simp only [rsD]; first | omega | assumption))) only [qkk, qkj, ge_iff_le, e, or1 (n := at_) (by omega), Nat.reduceAdd, Nat.reduceMul, Nat.reduceLT, Int.reduceToNat, Int.reduceAdd, Int.reduceSub, Int.reduceMul, rsU, rsC]
 rfl
theorem tolarge_ok (J : AH O) {i : Nat} (h : i < 1048576) : qjq [.i .i64 ((i : Int) + 1)] J = some (.tup [.i .u64 (rlg i), .i .i64 0], J) := by
 have e : IntKind.u64.wrap (((i : Int) + 1) * 2 ^ 1) = ((2 * (i + 1) : Nat) : Int) := by rw [s_u64 (by omega)]; omega
 simp (maxSteps := 2000000) -implicitDefEqProofs (disch := (first | omega | rfl | assumption | (simp only [rsD]; first | omega | assumption))) only [qjq, qjp, gt_iff_lt, e, Nat.reduceAdd, Nat.reduceMul, Nat.reduceLT, Int.reduceToNat, Int.reduceAdd, Int.reduceSub, Int.reduceMul, rsU, rsC]
 rfl
theorem kind_sm (J : AH O) {at_ : Nat} (h : at_ < 4194304) : qle [.i .u64 (rsm at_)] J = some (.i .i64 1, J) := by
 have e1 : ibits .and .u64 (rsm at_) 1 = 1 := by unfold rsm; rw [and1 (by omega)]; omega
 have e2 : Int.fdiv (rsm at_) (2 ^ 1) = (at_ : Int) := by unfold rsm; rw [Int.fdiv_eq_ediv_of_nonneg _ (by decide)]; omega
 have e3 : (rsm at_ == 0) = false := by unfold rsm; simp; omega
 have e4 : ((1 : Int) == 1) = true := rfl
 simp (maxSteps := 2000000) -implicitDefEqProofs (disch := (first | omega | rfl | assumption | (simp only [rsD]; first | omega | assumption))) only [qle, qld, e1, e2, e3, e4, Nat.reduceAdd, Nat.reduceMul, Nat.reduceLT, Int.reduceToNat, Int.reduceAdd, Int.reduceSub, Int.reduceMul, rsU, rsC]
theorem kind_lg (J : AH O) {i : Nat} (h : i < 1048576) : qle [.i .u64 (rlg i)] J = some (.i .i64 2, J) := by
 have e1 : ibits .and .u64 (rlg i) 1 = 0 := by unfold rlg; rw [and1 (by omega)]; omega
 have e2 : Int.fdiv (rlg i) (2 ^ 1) = (i : Int) + 1 := by unfold rlg; rw [Int.fdiv_eq_ediv_of_nonneg _ (by decide)]; omega
 have e3 : (rlg i == 0) = false := by unfold rlg; simp; omega
 have e4 : ((0 : Int) == 1) = false := rfl
 have e5 : ((0 : Int) == 0) = true := rfl
 simp (maxSteps := 2000000) -implicitDefEqProofs (disch := (first | omega | rfl | assumption | (simp only [rsD]; first | omega | assumption))) only [qle, qld, e1, e2, e3, e4, e5, Nat.reduceAdd, Nat.reduceMul, Nat.reduceLT, Int.reduceToNat, Int.reduceAdd, Int.reduceSub, Int.reduceMul, rsU, rsC]
theorem at_sm (J : AH O) {at_ : Nat} (h : at_ < 4194304) : qlj [.i .u64 (rsm at_)] J = some (.i .i64 (at_ : Int), J) := by
 have e2 : Int.fdiv (rsm at_) (2 ^ 1) = (at_ : Int) := by unfold rsm; rw [Int.fdiv_eq_ediv_of_nonneg _ (by decide)]; omega
 have e4 : ((1 : Int) == 1) = true := rfl
 simp (maxSteps := 2000000) -implicitDefEqProofs (disch := (first | omega | rfl | assumption | (simp only [rsD]; first | omega | assumption))) only [qlj, qli, kind_sm J h, e2, e4, Nat.reduceAdd, Nat.reduceMul, Nat.reduceLT, Int.reduceToNat, Int.reduceAdd, Int.reduceSub, Int.reduceMul, rsU, rsC]
theorem at_lg (J : AH O) {i : Nat} (h : i < 1048576) : qlj [.i .u64 (rlg i)] J = some (.i .i64 ((i : Int) + 1), J) := by
 have e2 : Int.fdiv (rlg i) (2 ^ 1) = (i : Int) + 1 := by unfold rlg; rw [Int.fdiv_eq_ediv_of_nonneg _ (by decide)]; omega
 have e4 : ((2 : Int) == 1) = false := rfl
 have e5 : ((2 : Int) == 2) = true := rfl
 simp (maxSteps := 2000000) -implicitDefEqProofs (disch := (first | omega | rfl | assumption | (simp only [rsD]; first | omega | assumption))) only [qlj, qli, kind_lg J h, e2, e4, e5, Nat.reduceAdd, Nat.reduceMul, Nat.reduceLT, Int.reduceToNat, Int.reduceAdd, Int.reduceSub, Int.reduceMul, rsU, rsC]
section
variable {J : AH O} {sb nb lb pb mb : Nat} {M : MemS} {S : PoolS} {w : List Int} {L : LarS} {T : StoS} {X : List Nat} {Y : List Int} (h : StoAt J sb nb lb pb mb M S w L T X Y)
include h
theorem StoAt.oblt {i : Nat} {ws : List Int} (ho : L.ob i = some ws) : i < 1048576 := by
 obtain ⟨e, sp, mk, he, _⟩ := h.l.at ho
 have := (List.getElem?_eq_some_iff.1 he).1
 have := h.l.el
 omega
theorem StoAt.toplt : T.top <= 4194304 := Nat.le_trans h.top h.tl
variable (hf : M.far 1000)
include hf
end
end Go.Abs.Tryz
set_option maxHeartbeats 2000000
namespace Go.Abs.Tryz
open Go Go.Abs
variable {O : Type}
def swords (p r : Int) : Int := if chkOf p r 0 0 = 0 then 1 + p + r else 0
theorem chk00 {p r : Int} (h : chkOf p r 0 0 = 0) : (0 <= p /\ p <= 4095) /\ (0 <= r /\ r <= 4095) := by
 unfold chkOf at h
 split at h
 ·cases h
 ·omega
theorem hwords_ok (J : AH O) {p r s g : Int} {l : Bool} (hp : 0 <= p /\ p <= 4095) (hr : 0 <= r /\ r <= 4095) : Ok (qdj [.agg [.i .i64 p, .i .i64 r, .i .i64 s, .i .i64 g, .b l]] J) fun q => q.1 = .i .i64 (1 + p + r) /\ Ext J q.2 := by
 simp (maxSteps := 2000000) -implicitDefEqProofs (disch := (first | omega | rfl | assumption | (simp only [rsD]; first | omega | assumption))) only [qdj, qdi, Nat.reduceAdd, Nat.reduceMul, Nat.reduceLT, Int.reduceToNat, Int.reduceAdd, Int.reduceSub, Int.reduceMul, rsU, rsC]
 exact Ok_some.2 ⟨rfl, (ext_of (by simp only [put_next, bump_next, kill_next]; omega) (fun b hb => by simp -implicitDefEqProofs (disch := (first | omega | rfl | assumption | (simp only [rsD]; first | omega | assumption))) only [s_bn, s_kn, bump_blk, s_ext]))⟩
theorem slarge_ok (J : AH O) (p r small : Int) : Ok (qdt [.agg [.i .i64 p, .i .i64 r], .i .i64 small] J) fun q => q.1 = .b (decide (swords p r > small)) /\ Ext J q.2 := by
 simp (maxSteps := 2000000) -implicitDefEqProofs (disch := (first | omega | rfl | assumption | (simp only [rsD]; first | omega | assumption))) only [qdt, qds, qdo, qdn, qde, qdd, Nat.reduceAdd, Nat.reduceMul, Nat.reduceLT, Int.reduceToNat, Int.reduceAdd, Int.reduceSub, Int.reduceMul, rsU, rsC]
 refine Ok.step (check_ok _ p r 0 0 false) fun q ⟨g1, g2⟩ => ?_
 obtain ⟨q, J1⟩ := q
 simp only at g1 g2
 subst g1
 have hb1 : J1.blk (J.next + 1) = some (.cells true 37 [.i .i64 p, .i .i64 r]) := (g2.blk _ (by simp)).trans (by simp -implicitDefEqProofs (disch := omega) only [s_bn, s_bs, s_kn, bump_blk])
 by_cases hc : chkOf p r 0 0 = 0
 ·have e1 : (chkOf p r 0 0 == 0) = true := by simp [hc]
  simp (maxSteps := 2000000) -implicitDefEqProofs (disch := (first | omega | rfl | assumption | (simp only [rsD]; first | omega | assumption))) only [e1, hb1, Nat.reduceAdd, Nat.reduceMul, Nat.reduceLT, Int.reduceToNat, Int.reduceAdd, Int.reduceSub, Int.reduceMul, rsU, rsC]
  obtain ⟨c1, c2⟩ := chk00 hc
  refine Ok.step (hwords_ok _ (s := 0) (g := 0) (l := false) c1 c2) fun q ⟨k1, k2⟩ => ?_
  obtain ⟨q, J2⟩ := q
  simp only at k1 k2
  subst k1
  simp (maxSteps := 2000000) -implicitDefEqProofs (disch := (first | omega | rfl | assumption | (simp only [rsD]; first | omega | assumption))) only [Nat.reduceAdd, Nat.reduceMul, Nat.reduceLT, Int.reduceToNat, Int.reduceAdd, Int.reduceSub, Int.reduceMul, rsU, rsC]
  exact Ok_some.2 ⟨by simp [swords, hc], (ext_of (by (have x0 := (g2).next); (have x1 := (k2).next); (try simp only [rsD] at *); omega) (fun b hb => by (have x0 := (g2).next); (have x1 := (k2).next); (try simp only [rsD] at *); simp -implicitDefEqProofs (disch := (first | omega | rfl | assumption | (simp only [rsD]; first | omega | assumption))) only [s_bn, s_kn, bump_blk, s_ext (g2), s_ext (k2)]))⟩
 ·have e1 : (chkOf p r 0 0 == 0) = false := by simp [hc]
  simp (maxSteps := 2000000) -implicitDefEqProofs (disch := (first | omega | rfl | assumption | (simp only [rsD]; first | omega | assumption))) only [e1, hb1, Nat.reduceAdd, Nat.reduceMul, Nat.reduceLT, Int.reduceToNat, Int.reduceAdd, Int.reduceSub, Int.reduceMul, rsU, rsC]
  exact Ok_some.2 ⟨by simp [swords, hc], (ext_of (by (have x0 := (g2).next); (try simp only [rsD] at *); omega) (fun b hb => by (have x0 := (g2).next); (try simp only [rsD] at *); simp -implicitDefEqProofs (disch := (first | omega | rfl | assumption | (simp only [rsD]; first | omega | assumption))) only [s_bn, s_kn, bump_blk, s_ext (g2)]))⟩
theorem StoAt.beside {J J' : AH O} {sb nb lb pb mb : Nat} {M : MemS} {S : PoolS} {w : List Int} {L : LarS} {T : StoS} {X Z : List Nat} {Y : List Int} (h : StoAt J sb nb lb pb mb M S w L T X Y) (e : Ext J J') (hZ : ∀ b ∈ Z, b ∈ X ∨ (J.next <= b /\ b < J'.next)) : StoAt J' sb nb lb pb mb M S w L T Z Y := by
 have h1 := h.ext e
 have hn := h.nlt
 have hs := h.slt
 exact { h1 with l := h.l.turn (K := []) e.chg (by simp) (fun b hb => by
   simp only [List.mem_cons] at hb ⊢
   rcases hb with rfl | rfl | hb
   ·exact .inl (.inl rfl)
   ·exact .inl (.inr (.inl rfl))
   ·rcases hZ b hb with g | g
    ·exact .inl (.inr (.inr g))
    ·exact .inr g), nd := ⟨h.nd.1, fun hm => by rcases hZ _ hm with g | g; exact h.nd.2.1 g; omega, fun hm => by rcases hZ _ hm with g | g; exact h.nd.2.2 g; omega⟩ }
def newHd (p r s : Nat) (small : Int) : Hd := ⟨p, r, s, 0, decide (((1 + p + r : Nat) : Int) > small)⟩
section
variable {J : AH O} {sb nb lb pb mb : Nat} {M : MemS} {S : PoolS} {w : List Int} {L : LarS} {T : StoS} {X : List Nat} {Y : List Int} (h : StoAt J sb nb lb pb mb M S w L T X Y)
include h
omit h in
theorem newHd_ok {p r s : Nat} {small : Int} (hp : p < 4096) (hr : r < 4096) (hs : s < 32) : (newHd p r s small).ok := ⟨hp, hr, hs, by show 0 < 8; omega⟩
omit h in
theorem swords_of {p r : Nat} (hp : p < 4096) (hr : r < 4096) : swords p r = ((1 + p + r : Nat) : Int) := by
 have hc : chkOf p r 0 0 = 0 := by unfold chkOf; rw [if_neg (by omega), if_neg (by omega), if_neg (by omega)]
 unfold swords; rw [if_pos hc]; omega
theorem smake_near (hf : M.far 1000) {p r s : Nat} (hp : p < 4096) (hr : r < 4096) (hs : s < 32) (hsm : ((1 + p + r : Nat) : Int) <= T.small) (hfit : T.top + (1 + p + r) <= T.ws.length) (hlim : T.top < 4194304) :
  Ok (qkp [.p (some (.n sb, 0)), .agg [.i .i64 (p : Int), .i .i64 (r : Int)], .i .i64 (s : Int)] J) fun q => q.1 = .tup [.i .u64 (rsm T.top), .i .i64 0] /\ ∃ M', StoAt q.2 sb nb lb pb mb M' S w L { T with top := T.top + (1 + p + r), ws := T.ws.set T.top ((newHd p r s T.small).word : Int) } X Y /\ Beh Y M M' 3 0 0 /\ Keep X J q.2 := by
 obtain ⟨el, hsb⟩ := h.s
 have hlt := h.slt
 simp (maxSteps := 2000000) -implicitDefEqProofs (disch := (first | omega | rfl | assumption | (simp only [rsD]; first | omega | assumption))) only [qkp, qko, hsb, Nat.reduceAdd, Nat.reduceMul, Nat.reduceLT, Int.reduceToNat, Int.reduceAdd, Int.reduceSub, Int.reduceMul, rsU, rsC]
 refine Ok.step (slarge_ok _ (p : Int) (r : Int) T.small) fun q ⟨g1, g2⟩ => ?_
 obtain ⟨q, J1⟩ := q
 simp only at g1 g2
 rw [swords_of hp hr, decide_eq_false (by omega)] at g1
 subst g1
 have g2n := g2.next
 simp only [rsD] at g2n
 have hb1 : J1.blk J.next = some (.cells true 37 [.i .i64 (p : Int), .i .i64 (r : Int)]) := (g2.blk _ (by simp; omega)).trans (by simp -implicitDefEqProofs (disch := omega) only [s_bn, s_bs, s_kn, bump_blk])
 simp (maxSteps := 2000000) -implicitDefEqProofs (disch := (first | omega | rfl | assumption | (simp only [rsD]; first | omega | assumption))) only [hb1, Nat.reduceAdd, Nat.reduceMul, Nat.reduceLT, Int.reduceToNat, Int.reduceAdd, Int.reduceSub, Int.reduceMul, rsU, rsC]
 have hl : (newHd p r s T.small).l = false := decide_eq_false (by omega)
 have hpk := hpack_ok (J1.put (J.next + 1) (.cells true 39 [.i .i64 (p : Int), .i .i64 (r : Int), .i .i64 (s : Int), .i .i64 0, .b false])) (newHd_ok (small := T.small) hp hr hs)
 simp only [Hd.av, hl] at hpk
 refine Ok.step hpk fun q ⟨k1, k2⟩ => ?_
 obtain ⟨q, J2⟩ := q
 simp only at k1 k2
 subst k1
 have e0 : ((0 : Int) != 0) = false := rfl
 have k2n := k2.next
 simp only [rsD] at k2n
 have hb2 : J2.blk (J.next + 1) = some (.cells true 39 [.i .i64 (p : Int), .i .i64 (r : Int), .i .i64 (s : Int), .i .i64 0, .b false]) := (k2.blk _ (by simp; omega)).trans s_bs
 have x2 : Ext J J2 := (ext_of (by (have x0 := (g2).next); (have x1 := (k2).next); (try simp only [rsD] at *); omega) (fun b hb => by (have x0 := (g2).next); (have x1 := (k2).next); (try simp only [rsD] at *); simp -implicitDefEqProofs (disch := (first | omega | rfl | assumption | (simp only [rsD]; first | omega | assumption))) only [s_bn, s_kn, bump_blk, s_ext (g2), s_ext (k2)]))
 have hs2 : J2.blk sb = _ := (x2.blk _ hlt).trans hsb
 simp (maxSteps := 2000000) -implicitDefEqProofs (disch := (first | omega | rfl | assumption | (simp only [rsD]; first | omega | assumption))) only [e0, hb2, hs2, Nat.reduceAdd, Nat.reduceMul, Nat.reduceLT, Int.reduceToNat, Int.reduceAdd, Int.reduceSub, Int.reduceMul, rsU, rsC]
 refine Ok.step (hwords_ok _ (s := (s : Int)) (g := 0) (l := false) (by omega) (by omega)) fun q ⟨j1, j2⟩ => ?_
 obtain ⟨q, J3⟩ := q
 simp only at j1 j2
 subst j1
 have x3 : Ext J J3 := x2.trans j2
 have hs3 : J3.blk sb = _ := (x3.blk _ hlt).trans hsb
 have h3 : StoAt J3 sb nb lb pb mb M S w L T X Y := h.ext x3
 simp (maxSteps := 2000000) -implicitDefEqProofs (disch := (first | omega | rfl | assumption | (simp only [rsD]; first | omega | assumption))) only [hs3, Nat.reduceAdd, Nat.reduceMul, Nat.reduceLT, Int.reduceToNat, Int.reduceAdd, Int.reduceSub, Int.reduceMul, rsU, rsC]
 have tk := stake_ok h3 (n := 1 + p + r) (by omega) hfit
 rw [show ((1 + p + r : Nat) : Int) = 1 + (p : Int) + (r : Int) by omega] at tk
 refine Ok.step tk fun q ⟨t1, t2, t3⟩ => ?_
 obtain ⟨q, J4⟩ := q
 simp only at t1 t2 t3
 subst t1
 obtain ⟨el4, hs4⟩ := t2.s
 simp (maxSteps := 2000000) -implicitDefEqProofs (disch := (first | omega | rfl | assumption | (simp only [rsD]; first | omega | assumption))) only [e0, hs4, Nat.reduceAdd, Nat.reduceMul, Nat.reduceLT, Int.reduceToNat, Int.reduceAdd, Int.reduceSub, Int.reduceMul, rsU, rsC]
 refine Ok.step (swrite_ok t2 (hf.less (by decide)) (at_ := (T.top : Int)) (x := ((newHd p r s T.small).word : Int)) ⟨by omega, by simp only; omega⟩) fun q ⟨u1, M', u2, u3, _, u4⟩ => ?_
 obtain ⟨q, J5⟩ := q
 simp only at u1 u2 u4
 subst u1
 simp (maxSteps := 2000000) -implicitDefEqProofs (disch := (first | omega | rfl | assumption | (simp only [rsD]; first | omega | assumption))) only [tosmall_ok J5 hlim, Nat.reduceAdd, Nat.reduceMul, Nat.reduceLT, Int.reduceToNat, Int.reduceAdd, Int.reduceSub, Int.reduceMul, rsU, rsC]
 rw [Int.toNat_natCast] at u2
 exact Ok_some.2 ⟨rfl, M', u2, u3.as (by decide) rfl rfl, ((h.l.p.mi.keepExt x3).mono fun b hb => by simp [hb]).trans (t3.trans u4)⟩
theorem smake_farE (hf : M.far 2000) {p r s : Nat} (hp : p < 4096) (hr : r < 4096) (hs : s < 32) (hsm : T.small < ((1 + p + r : Nat) : Int)) (hcnt : M.count < 262144) (hR : S.more * 6 <= 4194304) :
  Ok (qkp [.p (some (.n sb, 0)), .agg [.i .i64 (p : Int), .i .i64 (r : Int)], .i .i64 (s : Int)] J) fun q => q.1 = .tup [.i .u64 (rlg S.took.1), .i .i64 0] /\ L.ob S.took.1 = none /\ ∃ M' S' w' L', StoAt q.2 sb nb lb pb mb M' S' w' L' T X Y /\ (L'.ep = L.ep /\ L'.H = L.H ++ [S.took.1] /\ L'.words = L.words + ((1 + p + r : Nat) : Int)) /\ (L'.ob = fun j => if j = S.took.1 then some ((List.replicate (1 + p + r) 0).set 0 ((newHd p r s T.small).word : Int)) else L.ob j) /\ Alike S.took.2 S' /\ Beh Y M M' 27 (((1 + p + r : Nat) : Int) + 6 * ((S.took.2.room : Int) - S.room)) 1 /\ Keep X J q.2 := by
 obtain ⟨el, hsb⟩ := h.s
 have hlt := h.slt
 simp (maxSteps := 2000000) -implicitDefEqProofs (disch := (first | omega | rfl | assumption | (simp only [rsD]; first | omega | assumption))) only [qkp, qko, hsb, Nat.reduceAdd, Nat.reduceMul, Nat.reduceLT, Int.reduceToNat, Int.reduceAdd, Int.reduceSub, Int.reduceMul, rsU, rsC]
 refine Ok.step (slarge_ok _ (p : Int) (r : Int) T.small) fun q ⟨g1, g2⟩ => ?_
 obtain ⟨q, J1⟩ := q
 simp only at g1 g2
 rw [swords_of hp hr, decide_eq_true (by omega)] at g1
 subst g1
 have g2n := g2.next
 simp only [rsD] at g2n
 have hb1 : J1.blk J.next = some (.cells true 37 [.i .i64 (p : Int), .i .i64 (r : Int)]) := (g2.blk _ (by simp; omega)).trans (by simp -implicitDefEqProofs (disch := omega) only [s_bn, s_bs, s_kn, bump_blk])
 simp (maxSteps := 2000000) -implicitDefEqProofs (disch := (first | omega | rfl | assumption | (simp only [rsD]; first | omega | assumption))) only [hb1, Nat.reduceAdd, Nat.reduceMul, Nat.reduceLT, Int.reduceToNat, Int.reduceAdd, Int.reduceSub, Int.reduceMul, rsU, rsC]
 have hl : (newHd p r s T.small).l = true := decide_eq_true (by omega)
 have hpk := hpack_ok (J1.put (J.next + 1) (.cells true 39 [.i .i64 (p : Int), .i .i64 (r : Int), .i .i64 (s : Int), .i .i64 0, .b true])) (newHd_ok (small := T.small) hp hr hs)
 simp only [Hd.av, hl] at hpk
 refine Ok.step hpk fun q ⟨k1, k2⟩ => ?_
 obtain ⟨q, J2⟩ := q
 simp only at k1 k2
 subst k1
 have e0 : ((0 : Int) != 0) = false := rfl
 have k2n := k2.next
 simp only [rsD] at k2n
 have hb2 : J2.blk (J.next + 1) = some (.cells true 39 [.i .i64 (p : Int), .i .i64 (r : Int), .i .i64 (s : Int), .i .i64 0, .b true]) := (k2.blk _ (by simp; omega)).trans s_bs
 have x2 : Ext J J2 := (ext_of (by (have x0 := (g2).next); (have x1 := (k2).next); (try simp only [rsD] at *); omega) (fun b hb => by (have x0 := (g2).next); (have x1 := (k2).next); (try simp only [rsD] at *); simp -implicitDefEqProofs (disch := (first | omega | rfl | assumption | (simp only [rsD]; first | omega | assumption))) only [s_bn, s_kn, bump_blk, s_ext (g2), s_ext (k2)]))
 have hs2 : J2.blk sb = _ := (x2.blk _ hlt).trans hsb
 simp (maxSteps := 2000000) -implicitDefEqProofs (disch := (first | omega | rfl | assumption | (simp only [rsD]; first | omega | assumption))) only [e0, hb2, hs2, Nat.reduceAdd, Nat.reduceMul, Nat.reduceLT, Int.reduceToNat, Int.reduceAdd, Int.reduceSub, Int.reduceMul, rsU, rsC]
 refine Ok.step (hwords_ok _ (s := (s : Int)) (g := 0) (l := true) (by omega) (by omega)) fun q ⟨j1, j2⟩ => ?_
 obtain ⟨q, J3⟩ := q
 simp only at j1 j2
 subst j1
 have x3 : Ext J J3 := x2.trans j2
 have hs3 : J3.blk sb = _ := (x3.blk _ hlt).trans hsb
 have h3 : StoAt J3 sb nb lb pb mb M S w L T X Y := h.ext x3
 simp (maxSteps := 2000000) -implicitDefEqProofs (disch := (first | omega | rfl | assumption | (simp only [rsD]; first | omega | assumption))) only [hs3, Nat.reduceAdd, Nat.reduceMul, Nat.reduceLT, Int.reduceToNat, Int.reduceAdd, Int.reduceSub, Int.reduceMul, rsU, rsC]
 have tk := ladd_ok h3.l (hf.less (by decide)) (n := ((1 + p + r : Nat) : Int)) (by omega) (by omega) hcnt hR
 rw [Int.toNat_natCast] at tk
 rw [show (AV.i .i64 ((1 + p + r : Nat) : Int)) = .i .i64 (1 + (p : Int) + (r : Int)) by congr 1 <;> omega] at tk
 refine Ok.step tk fun q ⟨t1, t0, M4, S4, w4, t2, t3, t4, t5⟩ => ?_
 obtain ⟨q, J4⟩ := q
 simp only at t1 t2 t5
 subst t1
 have h4 := h3.larged t2 t4 t5
 obtain ⟨el4, hs4⟩ := h4.s
 simp (maxSteps := 2000000) -implicitDefEqProofs (disch := (first | omega | rfl | assumption | (simp only [rsD]; first | omega | assumption))) only [e0, hs4, Nat.reduceAdd, Nat.reduceMul, Nat.reduceLT, Int.reduceToNat, Int.reduceAdd, Int.reduceSub, Int.reduceMul, rsU, rsC]
 have ho : ({ L with H := L.H ++ [S.took.1], words := L.words + ((1 + p + r : Nat) : Int), ob := fun j => if j = S.took.1 then some (List.replicate (1 + p + r) 0) else L.ob j } : LarS).ob S.took.1 = some (List.replicate (1 + p + r) 0) := if_pos rfl
 have hb5 := h4.oblt ho
 refine Ok.step (lwrite_ok h4.l (t4.far (hf.less (by decide))) ho (at_ := 0) (x := ((newHd p r s T.small).word : Int)) ⟨by decide, by first | omega | (simp; done) | (simp; omega)⟩) fun q ⟨u1, M5, u2, u3, u4⟩ => ?_
 obtain ⟨q, J5⟩ := q
 simp only at u1 u2 u4
 subst u1
 simp (maxSteps := 2000000) -implicitDefEqProofs (disch := (first | omega | rfl | assumption | (simp only [rsD]; first | omega | assumption))) only [tolarge_ok J5 hb5, Nat.reduceAdd, Nat.reduceMul, Nat.reduceLT, Int.reduceToNat, Int.reduceAdd, Int.reduceSub, Int.reduceMul, rsU, rsC]
 refine Ok_some.2 ⟨rfl, t0, M5, S4, w4, _, h4.larged u2 u3 u4, ⟨rfl, rfl, rfl⟩, ?_, t3, ?_, ?_⟩
 ·funext j
  simp only
  by_cases hj : j = S.took.1
  ·rw [if_pos hj, if_pos hj]; rfl
  ·rw [if_neg hj, if_neg hj, if_neg hj]
 ·exact ((t4.trans u3).as (by decide) (by omega) (by omega)).mono fun y hy => by simp [hy]
 ·exact ((h.l.p.mi.keepExt x3).mono fun b hb => by simp [hb]).trans ((t5.trans u4).tail.tail)
end
end Go.Abs.Tryz
namespace Go.Abs.Tryz
open Go Go.Abs
variable {O : Type}
theorem snew_ok {J : AH O} {X : List Nat} (hX : ∀ b ∈ X, b < J.next) {small words : Int} (h1 : 2 <= small /\ small <= 64) (h2 : 0 <= words /\ words <= 4194304) :
  Ok (qck [.i .i64 small, .i .i64 words] J) fun r => ∃ sb nb lb pb mb M S, r.1 = .tup [.p (some (.n sb, 0)), .i .i64 0] /\ StoAt r.2 sb nb lb pb mb M S [] ⟨[], [], 0, 0, 0, fun _ => none⟩ ⟨0, List.replicate words.toNat 0, 0, [.i .i64 0, .i .i64 0, .b false], small⟩ X [] /\ S = ⟨1, 5, 0, [], [], 0⟩ /\ M.count = 2 /\ M.met.r = 0 /\ M.met.w = 0 /\ M.met.held = words /\ Keep X J r.2 := by
 have e0 : ((0 : Int) != 0) = false := rfl
 simp (maxSteps := 2000000) -implicitDefEqProofs (disch := (first | omega | rfl | assumption | (simp only [rsD]; first | omega | assumption))) only [qck, qcj, gt_iff_lt, Nat.reduceAdd, Nat.reduceMul, Nat.reduceLT, Int.reduceToNat, Int.reduceAdd, Int.reduceSub, Int.reduceMul, rsU, rsC]
 refine Ok.step (newX hX) fun r ⟨g1, g2, g3⟩ => ?_
 obtain ⟨q, J1⟩ := r
 simp only at g1 g2 g3
 subst g1
 simp (maxSteps := 2000000) -implicitDefEqProofs (disch := (first | omega | rfl | assumption | (simp only [rsD]; first | omega | assumption))) only [qb5, qb4, Nat.reduceAdd, Nat.reduceMul, Nat.reduceLT, Int.reduceToNat, Int.reduceAdd, Int.reduceSub, Int.reduceMul, rsU, rsC]
 have hff : ff MemS.new.sp = 0 := rfl
 refine Ok.step (openX g2 ⟨by decide, by decide⟩ h2.1 h2.2 (by decide)) fun r ⟨k1, k2, k3⟩ => ?_
 obtain ⟨q, J2⟩ := r
 simp only at k1 k2 k3
 rw [hff] at k1 k2
 subst k1
 simp (maxSteps := 2000000) -implicitDefEqProofs (disch := (first | omega | rfl | assumption | (simp only [rsD]; first | omega | assumption))) only [e0, Nat.reduceAdd, Nat.reduceMul, Nat.reduceLT, Int.reduceToNat, Int.reduceAdd, Int.reduceSub, Int.reduceMul, rsU, rsC]
 have kX : ∀ b ∈ X, b < J2.next := fun b hb => k2.lt b hb
 have kn := k3.next
 have k4 : MemIn ((J2.bump 1).put J2.next (.cells true 135 [.p (some (.n J.next, 0)), .i .i64 0, .i .i64 0, .i .i64 0, .i .i64 0, .b false])) J.next (MemS.new.opn 0 words) (J2.next :: X) :=
  k2.turn (L := [J2.next]) ⟨by simp, fun b hb hm => by simp -implicitDefEqProofs (disch := omega) only [s_bn, s_bs, s_kn, bump_blk]⟩ (fun b hb => .inr (by simp at hb; omega)) (fun b hb => by
   rcases List.mem_cons.1 hb with rfl | hb
   ·exact .inr ⟨Nat.le_refl _, by simp⟩
   ·exact .inl hb)
 have hw0 : wordsOf (MemS.new.opn 0 words).sp 0 = some (List.replicate words.toNat 0) := opn_words (M := MemS.new) (n := words)
 refine Ok.step (lnew_ok (Y := [0]) k4 ⟨show (0 : Int) < _ by decide, show (0 : Int) < _ by decide⟩ (show (1 : Int) < 262144 by decide) (fun y hy => by simp at hy; subst hy; rw [hw0]; simp)) fun r ⟨lb, pb, M', S, j1, j2, j3, j4, j5, j6⟩ => ?_
 obtain ⟨q, J3⟩ := r
 simp only at j1 j2 j6
 subst j1
 simp (maxSteps := 2000000) -implicitDefEqProofs (disch := (first | omega | rfl | assumption | (simp only [rsD]; first | omega | assumption))) only [e0, Nat.reduceAdd, Nat.reduceMul, Nat.reduceLT, Int.reduceToNat, Int.reduceAdd, Int.reduceSub, Int.reduceMul, rsU, rsC]
 have hff1 : ff (MemS.new.opn 0 words).sp = 1 := rfl
 rw [hff1] at j3 j4
 have j6n := j6.next
 simp only [rsD] at j6n
 have hlX := j2.lX
 have hn3 : J3.blk J2.next = some (.cells true 135 [.p (some (.n J.next, 0)), .i .i64 0, .i .i64 0, .i .i64 0, .i .i64 0, .b false]) := (j6.blk _ (by simp)).trans s_bs
 refine Ok_some.2 ⟨J3.next, J2.next, lb, pb, J.next, M', S, rfl, ⟨?_, ⟨135, ?_⟩, ⟨_, s_bs⟩, ?_, by simp, ⟨by omega, fun hm => by have := kX _ hm; omega, fun hm => by have := hlX J3.next (by simp [hm]); omega⟩, by simp⟩, j3, ?_, ?_, ?_, ?_, ?_⟩
 ·refine j2.turn (K := [J3.next]) ⟨by simp, fun b hb hm => by simp -implicitDefEqProofs (disch := omega) only [s_bn, s_bs, s_kn, bump_blk]⟩ (fun b hb => .inr (by simp at hb; omega)) (fun b hb => ?_)
  simp only [List.mem_cons] at hb ⊢
  rcases hb with rfl | rfl | hb
  ·exact .inl (.inl rfl)
  ·exact .inr ⟨Nat.le_refl _, by simp⟩
  ·exact .inl (.inr hb)
 ·simp -implicitDefEqProofs (disch := omega) only [s_bn, s_bs, s_kn, bump_blk]
  exact hn3
 ·exact (j5.keep 0 (by simp)).trans hw0
 ·rw [j4]; rfl
 ·rw [j4]; rfl
 ·rw [j4]; rfl
 ·rw [j4]; simp [MemS.opn, MemS.new, Met.hold, Met.zero]
 ·exact (⟨g3.next, fun b hb => g3.blk b (hX b hb)⟩ : Keep X J J1).trans (k3.trans ((⟨by simp, fun b hb => by have := kX b hb; simp -implicitDefEqProofs (disch := omega) only [s_bn, s_bs, s_kn, bump_blk]⟩ : Keep X J2 _).trans (j6.tail.trans ⟨by simp, fun b hb => by have := hlX b (by simp [hb]); simp -implicitDefEqProofs (disch := omega) only [s_bn, s_bs, s_kn, bump_blk]⟩)))
end Go.Abs.Tryz
namespace Go.Abs.Tryz
open Go Go.Abs
variable {O : Type}
structure Ob where
 lg : Bool
 at_ : Nat
 n : Nat
 deriving DecidableEq
def Ob.ref (o : Ob) : Int := if o.lg then rlg o.at_ else rsm o.at_
structure GS (T : StoS) (L : LarS) (Os : List Ob) : Prop where
 sm : ∀ o ∈ Os, o.lg = false -> o.at_ + o.n <= T.top
 lg : ∀ o ∈ Os, o.lg = true -> ∃ ws, L.ob o.at_ = some ws /\ ws.length = o.n
 ap : ∀ (i j : Nat) (a b : Ob), i < j -> Os[i]? = some a -> Os[j]? = some b -> a.lg = b.lg -> (if a.lg then a.at_ ≠ b.at_ else a.at_ + a.n <= b.at_)
def obW (T : StoS) (L : LarS) (o : Ob) (k : Nat) : Int := if o.lg then ((L.ob o.at_).getD []).getD k 0 else T.ws.getD (o.at_ + k) 0
section
variable {J : AH O} {sb nb lb pb mb : Nat} {M : MemS} {S : PoolS} {w : List Int} {L : LarS} {T : StoS} {X : List Nat} {Y : List Int} (h : StoAt J sb nb lb pb mb M S w L T X Y) (hf : M.far 1000) {Os : List Ob} (g : GS T L Os)
include h hf g
end
end Go.Abs.Tryz
namespace Go.Abs.Tryz
open Go Go.Abs
variable {O : Type}
set_option maxRecDepth 100000 in
def MemS.few (M : MemS) (k c : Int) : Prop := M.met.r + M.met.w <= k /\ M.count <= c
theorem Beh.few {Y : List Int} {M M' : MemS} {d a n k c : Int} (h : Beh Y M M' d a n) (g : M.few k c) : M'.few (k + d) (c + n) := ⟨by have := h.k; have := g.1; omega, by have := h.count; have := g.2; omega⟩
theorem MemS.few.le {M : MemS} {k c k' c' : Int} (h : M.few k c) (h1 : k <= k') (h2 : c <= c') : M.few k' c' := ⟨by have := h.1; omega, by have := h.2; omega⟩
theorem MemS.few.far {M : MemS} {k c d : Int} (h : M.few k c) (hok : M.ok) (hk : k + d < 85070591730234615865843651857942052864) : M.far d := by
 have := h.1
 obtain ⟨h1, h2⟩ := hok.met
 constructor <;> omega
theorem GS.snoc {T T' : StoS} {L L' : LarS} {Os : List Ob} {o : Ob} (g : GS T L Os) (h1 : T.top <= T'.top) (h2 : ∀ a ∈ Os, a.lg = true -> L'.ob a.at_ = L.ob a.at_) (ho : o.lg = false -> o.at_ + o.n <= T'.top) (ho' : o.lg = true -> ∃ ws, L'.ob o.at_ = some ws /\ ws.length = o.n) (hap : ∀ a ∈ Os, a.lg = o.lg -> (if a.lg then a.at_ ≠ o.at_ else a.at_ + a.n <= o.at_)) : GS T' L' (Os ++ [o]) := by
 refine ⟨fun a ha hl => ?_, fun a ha hl => ?_, fun i j a b hij hi hj hl => ?_⟩
 ·rcases List.mem_append.1 ha with ha | ha
  ·have := g.sm a ha hl; omega
  ·simp at ha; subst ha; exact ho hl
 ·rcases List.mem_append.1 ha with ha | ha
  ·rw [h2 a ha hl]; exact g.lg a ha hl
  ·simp at ha; subst ha; exact ho' hl
 ·by_cases hjl : j < Os.length
  ·rw [List.getElem?_append_left hjl] at hj
   rw [List.getElem?_append_left (by omega)] at hi
   exact g.ap i j a b hij hi hj hl
  ·have hj2 := (List.getElem?_eq_some_iff.1 hj).1
   simp at hj2
   have : j = Os.length := by omega
   subst this
   rw [List.getElem?_append_left hij] at hi
   simp at hj
   subst hj
   exact hap a (List.mem_of_getElem? hi) hl
structure Mk (J : AH O) (sb nb lb pb mb : Nat) (M : MemS) (S : PoolS) (w : List Int) (L : LarS) (T : StoS) (X : List Nat) (Os : List Ob) : Prop where
 a : StoAt J sb nb lb pb mb M S w L T X []
 g : GS T L Os
 free : S.free = []
 len : S.E.length <= Os.length
 room : S.room <= 80
 few : M.few (30 * (Os.length : Int)) (2 + (Os.length : Int))
 small : T.small = 6
 ws : T.ws.length = 400
 top : T.top <= 6 * Os.length
 n : ∀ o ∈ Os, 1 <= o.n /\ o.n <= 15
theorem took_more {S S' : PoolS} (hf : S.free = []) (hr : S.room <= 80) (hl : S.E.length <= 20) (ha : Alike S.took.2 S') : S.more <= 80 /\ S'.free = [] /\ S'.E.length = S.E.length + 1 /\ S'.room <= 80 := by
 have e0 : S.took = (S.E.length, { S with room := S.more, E := S.E ++ [PE.fresh S.words], taken := S.taken + 1 }) := by unfold PoolS.took; rw [hf]
 have hm : S.more <= 80 := by unfold PoolS.more; split <;> omega
 rw [e0] at ha
 refine ⟨hm, ?_, ?_, ?_⟩
 ·rw [ha.free]; exact hf
 ·rw [ha.len]; simp
 ·rw [ha.room]; exact hm
end Go.Abs.Tryz
namespace Go.Abs.Tryz
open Go Go.Abs
variable {O : Type}
theorem StoAt.turn {J J' : AH O} {sb nb lb pb mb : Nat} {M : MemS} {S : PoolS} {w : List Int} {L : LarS} {T : StoS} {X Z K : List Nat} {Y : List Int} (h : StoAt J sb nb lb pb mb M S w L T X Y) (hc : Chg K J J') (hl : ∀ b ∈ K, b ∈ X ∨ J.next <= b) (hZ : ∀ b ∈ Z, b ∈ X ∨ (J.next <= b /\ b < J'.next)) : StoAt J' sb nb lb pb mb M S w L T Z Y := by
 have hn := h.nlt
 have hs := h.slt
 have k1 : nb ∉ K := fun hm => by rcases hl _ hm with g | g; exact h.nd.2.1 g; omega
 have k2 : sb ∉ K := fun hm => by rcases hl _ hm with g | g; exact h.nd.2.2 g; omega
 obtain ⟨e1, b1⟩ := h.n
 obtain ⟨e2, b2⟩ := h.s
 refine ⟨h.l.turn (K := K) hc (fun b hb => ?_) (fun b hb => ?_), ⟨e1, (hc.blk _ hn k1).trans b1⟩, ⟨e2, (hc.blk _ hs k2).trans b2⟩, h.now, h.top, ⟨h.nd.1, fun hm => ?_, fun hm => ?_⟩, h.oY⟩
 ·rcases hl b hb with g | g
  ·exact .inl (by simp [g])
  ·exact .inr g
 ·simp only [List.mem_cons] at hb ⊢
  rcases hb with rfl | rfl | hb
  ·exact .inl (.inl rfl)
  ·exact .inl (.inr (.inl rfl))
  ·rcases hZ b hb with g | g
   ·exact .inl (.inr (.inr g))
   ·exact .inr g
 ·rcases hZ _ hm with g | g; exact h.nd.2.1 g; omega
 ·rcases hZ _ hm with g | g; exact h.nd.2.2 g; omega
theorem Mk.turn {J J' : AH O} {sb nb lb pb mb : Nat} {M : MemS} {S : PoolS} {w : List Int} {L : LarS} {T : StoS} {X Z K : List Nat} {Os : List Ob} (m : Mk J sb nb lb pb mb M S w L T X Os) (hc : Chg K J J') (hl : ∀ b ∈ K, b ∈ X ∨ J.next <= b) (hZ : ∀ b ∈ Z, b ∈ X ∨ (J.next <= b /\ b < J'.next)) : Mk J' sb nb lb pb mb M S w L T Z Os := { m with a := m.a.turn hc hl hZ }
theorem Mk.new {J : AH O} {sb nb lb pb mb : Nat} {M : MemS} {X : List Nat} (h : StoAt J sb nb lb pb mb M ⟨1, 5, 0, [], [], 0⟩ [] ⟨[], [], 0, 0, 0, fun _ => none⟩ ⟨0, List.replicate (400 : Int).toNat 0, 0, [.i .i64 0, .i .i64 0, .b false], 6⟩ X []) (hc : M.count = 2) (hr : M.met.r = 0) (hw : M.met.w = 0) : Mk J sb nb lb pb mb M ⟨1, 5, 0, [], [], 0⟩ [] ⟨[], [], 0, 0, 0, fun _ => none⟩ ⟨0, List.replicate (400 : Int).toNat 0, 0, [.i .i64 0, .i .i64 0, .b false], 6⟩ X [] :=
 ⟨h, ⟨fun o ho _ => (nomatch ho), fun o ho _ => (nomatch ho), fun i j a b _ hi _ _ => by simp at hi⟩, rfl, Nat.le_refl _, Nat.zero_le _, ⟨by rw [hr, hw]; decide, by rw [hc]; decide⟩, rfl, List.length_replicate, Nat.zero_le _, fun o ho => (nomatch ho)⟩
end Go.Abs.Tryz
namespace Go.Abs.Tryz
open Go Go.Abs
variable {O : Type}
def Tk (M M' : MemS) (n : Int) : Prop := M'.met.r + M'.met.w = M.met.r + M.met.w + n
theorem Tk.trans {M M' M'' : MemS} {a b : Int} (h : Tk M M' a) (g : Tk M' M'' b) : Tk M M'' (a + b) := by unfold Tk at *; omega
theorem Tk.refl (M : MemS) : Tk M M 0 := by unfold Tk; omega
theorem Tk.as {M M' : MemS} {a b : Int} (h : Tk M M' a) (e : a = b) : Tk M M' b := e ▸ h
def Ob.cost (o : Ob) : Int := if o.lg then 3 else 1
theorem hdOf_word {h : Hd} (k : h.ok) : hdOf h.word = h := by
 have h1 := k.p; have h2 := k.r; have h3 := k.s; have h4 := k.g; have h5 := h.lnlt
 have e5 : (h.word / 2 ^ 32 % 2 ^ 1 == 1) = h.l := by
  simp only [Hd.word, Hd.w]
  cases hl : h.l with
  | true => rw [show h.ln = 1 by unfold Hd.ln; rw [hl]; rfl]; simp only [beq_iff_eq]; omega
  | false => rw [show h.ln = 0 by unfold Hd.ln; rw [hl]; rfl]; rw [beq_eq_false_iff_ne]; omega
 have e1 : h.word / 2 ^ 0 % 2 ^ 12 = h.p := by simp only [Hd.word, Hd.w]; omega
 have e2 : h.word / 2 ^ 12 % 2 ^ 12 = h.r := by simp only [Hd.word, Hd.w]; omega
 have e3 : h.word / 2 ^ 24 % 2 ^ 5 = h.s := by simp only [Hd.word, Hd.w]; omega
 have e4 : h.word / 2 ^ 29 % 2 ^ 3 = h.g := by simp only [Hd.word, Hd.w]; omega
 unfold hdOf
 rw [e1, e2, e3, e4, e5]
theorem unpack_hd (J : AH O) {h : Hd} (k : h.ok) : Ok (ql9 [.i .u64 (h.word : Int)] J) fun r => r.1 = .tup [.agg h.av, .i .i64 0] /\ Ext J r.2 := by
 have := unpack_ok J (w := h.word) (by have := k.w; omega)
 rw [hdOf_word k, if_pos rfl] at this
 exact this
section
variable {J : AH O} {sb nb lb pb mb : Nat} {M : MemS} {S : PoolS} {w : List Int} {L : LarS} {T : StoS} {X : List Nat} {Y : List Int}
theorem lread_in (h : LarAt J lb pb mb M S w L X Y) (hf : M.far 1000) {i : Nat} {ws : List Int} (ho : L.ob i = some ws) {at_ : Int} (ha : 0 <= at_ /\ at_ < ws.length) :
  Ok (qlt [.p (some (.n lb, 0)), .i .i64 ((i : Int) + 1), .i .i64 at_] J) fun r => r.1 = .tup [.i .u64 (ws.getD at_.toNat 0), .i .i64 0] /\ ∃ M', LarAt r.2 lb pb mb M' S w L X Y /\ Beh Y M M' 3 0 0 /\ Tk M M' 3 /\ Keep X J r.2 := by
 obtain ⟨el, hb⟩ := h.b
 simp only [LarS.cells] at hb
 obtain ⟨e, sp, mk, he, htk, a1, a2, a3, a4, a5, a6, a7, a8, a9⟩ := h.at ho
 have hs := spSmall h.p.mi.ok a7
 have hl := h.p.mi.wlen a7
 simp (maxSteps := 2000000) -implicitDefEqProofs (disch := (first | omega | rfl | assumption | (simp only [rsD]; first | omega | assumption))) only [qlt, qls, hb, Nat.reduceAdd, Nat.reduceMul, Nat.reduceLT, Int.reduceToNat, Int.reduceAdd, Int.reduceSub, Int.reduceMul, rsU, rsC]
 have g := lget_ok h hf ho he (k := 0) (by decide) a1
 rw [show ((0 : Nat) : Int) = 0 from rfl] at g
 refine Ok.step g fun r ⟨g1, M1, g2, g3, g4⟩ => ?_
 obtain ⟨q, J1⟩ := r
 simp only at g1 g2 g4
 subst g1
 have e0 : ((0 : Int) != 0) = false := rfl
 obtain ⟨el1, hb1⟩ := g2.b
 simp only [LarS.cells] at hb1
 simp (maxSteps := 2000000) -implicitDefEqProofs (disch := (first | omega | rfl | assumption | (simp only [rsD]; first | omega | assumption))) only [e0, hb1, Nat.reduceAdd, Nat.reduceMul, Nat.reduceLT, Int.reduceToNat, Int.reduceAdd, Int.reduceSub, Int.reduceMul, rsU, rsC]
 have b1 := h.beh2 hf g3 g2.p.mi.ok
 have hf1 : M1.far 998 := b1.far (hf.less (by decide))
 have rd := readXT g2.p.mi (hf1.calm (by decide)) (id := sp) (at_ := at_) (by omega)
 have a7' : wordsOf M1.sp sp = some ws := g3.oth h.p.now sp ws a8 a7
 rw [readR_of a7', if_pos ha] at rd
 refine Ok.step rd fun r ⟨k1, k2, k3⟩ => ?_
 obtain ⟨q, J2⟩ := r
 simp only at k1 k2 k3
 subst k1
 simp (maxSteps := 2000000) -implicitDefEqProofs (disch := (first | omega | rfl | assumption | (simp only [rsD]; first | omega | assumption))) only [Nat.reduceAdd, Nat.reduceMul, Nat.reduceLT, Int.reduceToNat, Int.reduceAdd, Int.reduceSub, Int.reduceMul, rsU, rsC]
 have g3r := g3.r
 have g3w := g3.w
 exact Ok_some.2 ⟨rfl, M1.rd 1, g2.re { g2.p with mi := k2, b := (k3.head).trans g2.p.b } (k3.tail).head fun y v _ hv => hv, (b1.trans Beh.rd).as (by decide) rfl rfl, by simp only [Tk, MemS.rd]; omega, g4.tail.trans k3.tail.tail⟩
theorem lwrite_in (h : LarAt J lb pb mb M S w L X Y) (hf : M.far 1000) {i : Nat} {ws : List Int} (ho : L.ob i = some ws) {at_ x : Int} (ha : 0 <= at_ /\ at_ < ws.length) :
  Ok (qjl [.p (some (.n lb, 0)), .i .i64 ((i : Int) + 1), .i .i64 at_, .i .u64 x] J) fun r => r.1 = .i .i64 0 /\ ∃ M', LarAt r.2 lb pb mb M' S w { L with ob := fun j => if j = i then some (ws.set at_.toNat x) else L.ob j } X Y /\ Beh Y M M' 3 0 0 /\ Tk M M' 3 /\ Keep X J r.2 := by
 obtain ⟨el, hb⟩ := h.b
 simp only [LarS.cells] at hb
 obtain ⟨e, sp, mk, he, htk, a1, a2, a3, a4, a5, a6, a7, a8, a9⟩ := h.at ho
 have hs := spSmall h.p.mi.ok a7
 have hl := h.p.mi.wlen a7
 simp (maxSteps := 2000000) -implicitDefEqProofs (disch := (first | omega | rfl | assumption | (simp only [rsD]; first | omega | assumption))) only [qjl, qjk, hb, Nat.reduceAdd, Nat.reduceMul, Nat.reduceLT, Int.reduceToNat, Int.reduceAdd, Int.reduceSub, Int.reduceMul, rsU, rsC]
 have g := lget_ok h hf ho he (k := 0) (by decide) a1
 rw [show ((0 : Nat) : Int) = 0 from rfl] at g
 refine Ok.step g fun r ⟨g1, M1, g2, g3, g4⟩ => ?_
 obtain ⟨q, J1⟩ := r
 simp only at g1 g2 g4
 subst g1
 have e0 : ((0 : Int) != 0) = false := rfl
 obtain ⟨el1, hb1⟩ := g2.b
 simp only [LarS.cells] at hb1
 simp (maxSteps := 2000000) -implicitDefEqProofs (disch := (first | omega | rfl | assumption | (simp only [rsD]; first | omega | assumption))) only [e0, hb1, Nat.reduceAdd, Nat.reduceMul, Nat.reduceLT, Int.reduceToNat, Int.reduceAdd, Int.reduceSub, Int.reduceMul, rsU, rsC]
 have b1 := h.beh2 hf g3 g2.p.mi.ok
 have hf1 : M1.far 998 := b1.far (hf.less (by decide))
 have wr := writeXT g2.p.mi (hf1.calm (by decide)) (id := sp) (at_ := at_) (x := x) (by omega)
 have a7' : wordsOf M1.sp sp = some ws := g3.oth h.p.now sp ws a8 a7
 rw [writeR_of a7', if_pos ha] at wr
 refine Ok.step wr fun r ⟨k1, k2, k3⟩ => ?_
 obtain ⟨q, J2⟩ := r
 simp only at k1 k2 k3
 subst k1
 simp (maxSteps := 2000000) -implicitDefEqProofs (disch := (first | omega | rfl | assumption | (simp only [rsD]; first | omega | assumption))) only [Nat.reduceAdd, Nat.reduceMul, Nat.reduceLT, Int.reduceToNat, Int.reduceAdd, Int.reduceSub, Int.reduceMul, rsU, rsC]
 have hin : wordsOf ((M1.wr 1).put sp.toNat (ws.set at_.toNat x)).sp sp = some (ws.set at_.toNat x) := by
  obtain ⟨h0, h1⟩ := wordsOf_some a7'
  refine wordsOf_mk h0 ?_
  show (M1.sp.set sp.toNat _)[sp.toNat]? = _
  rw [List.getElem?_set]; simp [(List.getElem?_eq_some_iff.1 h1).1]
 have g3r := g3.r
 have g3w := g3.w
 exact Ok_some.2 ⟨rfl, _, g2.wrote he ho a1 (by simp) hin (fun y hy => wordsOf_other hy hs.1) k2 k3, (b1.trans (Beh.wrp hs.1 a9)).as (by decide) rfl rfl, by simp only [Tk, MemS.wr, MemS.put]; omega, g4.tail.trans k3.tail.tail⟩
variable (h : StoAt J sb nb lb pb mb M S w L T X Y) (hf : M.far 1000)
include h hf
def Ob.is (o : Ob) (T : StoS) (L : LarS) : Prop := if o.lg then ∃ ws, L.ob o.at_ = some ws /\ ws.length = o.n else o.at_ + o.n <= T.top
omit h hf in
theorem GS.is {Os : List Ob} (g : GS T L Os) {o : Ob} (ho : o ∈ Os) : o.is T L := by
 unfold Ob.is
 cases hl : o.lg with
 | false => exact g.sm o ho hl
 | true => exact g.lg o ho hl
theorem word_is {o : Ob} (ho : o.is T L) {k : Nat} (hk : k < o.n) : Ok (qly [.p (some (.n sb, 0)), .i .u64 o.ref, .i .i64 (k : Int)] J) fun r => r.1 = .tup [.i .u64 (obW T L o k), .i .i64 0] /\ ∃ M', StoAt r.2 sb nb lb pb mb M' S w L T X Y /\ Beh Y M M' 3 0 0 /\ Tk M M' o.cost /\ Keep X J r.2 := by
 unfold Ob.ref obW Ob.cost
 unfold Ob.is at ho
 obtain ⟨el, hs⟩ := h.s
 have htp := h.toplt
 cases hl : o.lg with
 | false =>
  simp only [hl, Bool.false_eq_true, if_false] at ho ⊢
  have hlt : o.at_ < 4194304 := by omega
  have e1 : ((1 : Int) == 0) = false := rfl
  have e2 : ((1 : Int) == 1) = true := rfl
  simp (maxSteps := 2000000) -implicitDefEqProofs (disch := (first | omega | rfl | assumption | (simp only [rsD]; first | omega | assumption))) only [qly, qlx, kind_sm J hlt, at_sm J hlt, e1, e2, hs, Nat.reduceAdd, Nat.reduceMul, Nat.reduceLT, Int.reduceToNat, Int.reduceAdd, Int.reduceSub, Int.reduceMul, rsU, rsC]
  refine Ok.step (sread_ok h (hf.less (by decide)) (at_ := (o.at_ : Int) + k) (by omega)) fun r ⟨g1, M', g2, g3, g5, g4⟩ => ?_
  obtain ⟨q, J1⟩ := r
  simp only at g1 g2 g4
  subst g1
  simp (maxSteps := 2000000) -implicitDefEqProofs (disch := (first | omega | rfl | assumption | (simp only [rsD]; first | omega | assumption))) only [Nat.reduceAdd, Nat.reduceMul, Nat.reduceLT, Int.reduceToNat, Int.reduceAdd, Int.reduceSub, Int.reduceMul, rsU, rsC]
  exact Ok_some.2 ⟨by rw [show ((o.at_ : Int) + k).toNat = o.at_ + k by omega], M', g2, g3.as (by decide) rfl rfl, g5, g4⟩
 | true =>
  simp only [hl, if_true] at ho ⊢
  obtain ⟨ws, ho, hn⟩ := ho
  have hlt := h.oblt ho
  have hol := h.l.ol ho
  have e1 : ((2 : Int) == 0) = false := rfl
  have e2 : ((2 : Int) == 1) = false := rfl
  have e3 : ((2 : Int) == 2) = true := rfl
  simp (maxSteps := 2000000) -implicitDefEqProofs (disch := (first | omega | rfl | assumption | (simp only [rsD]; first | omega | assumption))) only [qly, qlx, kind_lg J hlt, at_lg J hlt, e1, e2, e3, hs, Nat.reduceAdd, Nat.reduceMul, Nat.reduceLT, Int.reduceToNat, Int.reduceAdd, Int.reduceSub, Int.reduceMul, rsU, rsC]
  refine Ok.step (lread_in h.l hf ho (at_ := (k : Int)) (by omega)) fun r ⟨g1, M', g2, g3, g5, g4⟩ => ?_
  obtain ⟨q, J1⟩ := r
  simp only at g1 g2 g4
  subst g1
  simp (maxSteps := 2000000) -implicitDefEqProofs (disch := (first | omega | rfl | assumption | (simp only [rsD]; first | omega | assumption))) only [Nat.reduceAdd, Nat.reduceMul, Nat.reduceLT, Int.reduceToNat, Int.reduceAdd, Int.reduceSub, Int.reduceMul, rsU, rsC]
  exact Ok_some.2 ⟨by rw [ho]; rfl, M', h.larged g2 g3 g4, g3.mono fun y hy => by simp [hy], g5, g4.tail.tail⟩
def setT (T : StoS) (o : Ob) (k : Nat) (x : Int) : StoS := if o.lg then T else { T with ws := T.ws.set (o.at_ + k) x }
def setL (L : LarS) (o : Ob) (k : Nat) (x : Int) : LarS := if o.lg then { L with ob := fun j => if j = o.at_ then some (((L.ob o.at_).getD []).set k x) else L.ob j } else L
theorem setword_is {o : Ob} (ho : o.is T L) {k : Nat} (hk : k < o.n) (x : Int) : Ok (qmo [.p (some (.n sb, 0)), .i .u64 o.ref, .i .i64 (k : Int), .i .u64 x] J) fun r => r.1 = .i .i64 0 /\ ∃ M', StoAt r.2 sb nb lb pb mb M' S w (setL L o k x) (setT T o k x) X Y /\ Beh Y M M' 3 0 0 /\ Tk M M' o.cost /\ Keep X J r.2 := by
 unfold Ob.ref Ob.cost setL setT
 unfold Ob.is at ho
 obtain ⟨el, hs⟩ := h.s
 have htp := h.toplt
 cases hl : o.lg with
 | false =>
  simp only [hl, Bool.false_eq_true, if_false] at ho ⊢
  have hlt : o.at_ < 4194304 := by omega
  have e1 : ((1 : Int) == 0) = false := rfl
  have e2 : ((1 : Int) == 1) = true := rfl
  simp (maxSteps := 2000000) -implicitDefEqProofs (disch := (first | omega | rfl | assumption | (simp only [rsD]; first | omega | assumption))) only [qmo, qmn, kind_sm J hlt, at_sm J hlt, e1, e2, hs, Nat.reduceAdd, Nat.reduceMul, Nat.reduceLT, Int.reduceToNat, Int.reduceAdd, Int.reduceSub, Int.reduceMul, rsU, rsC]
  refine Ok.step (swrite_ok h (hf.less (by decide)) (at_ := (o.at_ : Int) + k) (x := x) (by omega)) fun r ⟨g1, M', g2, g3, g5, g4⟩ => ?_
  obtain ⟨q, J1⟩ := r
  simp only at g1 g2 g4
  subst g1
  simp (maxSteps := 2000000) -implicitDefEqProofs (disch := (first | omega | rfl | assumption | (simp only [rsD]; first | omega | assumption))) only [Nat.reduceAdd, Nat.reduceMul, Nat.reduceLT, Int.reduceToNat, Int.reduceAdd, Int.reduceSub, Int.reduceMul, rsU, rsC]
  rw [show ((o.at_ : Int) + k).toNat = o.at_ + k by omega] at g2
  exact Ok_some.2 ⟨rfl, M', g2, g3.as (by decide) rfl rfl, g5, g4⟩
 | true =>
  simp only [hl, if_true] at ho ⊢
  obtain ⟨ws, ho, hn⟩ := ho
  have hlt := h.oblt ho
  have hol := h.l.ol ho
  have e1 : ((2 : Int) == 0) = false := rfl
  have e2 : ((2 : Int) == 1) = false := rfl
  have e3 : ((2 : Int) == 2) = true := rfl
  simp (maxSteps := 2000000) -implicitDefEqProofs (disch := (first | omega | rfl | assumption | (simp only [rsD]; first | omega | assumption))) only [qmo, qmn, kind_lg J hlt, at_lg J hlt, e1, e2, e3, hs, Nat.reduceAdd, Nat.reduceMul, Nat.reduceLT, Int.reduceToNat, Int.reduceAdd, Int.reduceSub, Int.reduceMul, rsU, rsC]
  refine Ok.step (lwrite_in h.l hf ho (at_ := (k : Int)) (x := x) (by omega)) fun r ⟨g1, M', g2, g3, g5, g4⟩ => ?_
  obtain ⟨q, J1⟩ := r
  simp only at g1 g2 g4
  subst g1
  simp (maxSteps := 2000000) -implicitDefEqProofs (disch := (first | omega | rfl | assumption | (simp only [rsD]; first | omega | assumption))) only [Nat.reduceAdd, Nat.reduceMul, Nat.reduceLT, Int.reduceToNat, Int.reduceAdd, Int.reduceSub, Int.reduceMul, rsU, rsC]
  rw [Int.toNat_natCast] at g2
  exact Ok_some.2 ⟨rfl, M', by rw [ho]; exact h.larged g2 g3 g4, g3.mono fun y hy => by simp [hy], g5, g4.tail.tail⟩
structure Ob.has (o : Ob) (T : StoS) (L : LarS) (hd : Hd) : Prop where
 is : o.is T L
 n : o.n = 1 + hd.p + hd.r
 w : obW T L o 0 = (hd.word : Int)
 ok : hd.ok
omit h hf in
theorem StoAt.fill {J' : AH O} {a : Nat} (h : StoAt J sb nb lb pb mb M S w L T (a :: X) Y) (hn : J.next <= J'.next) (hb : ∀ b, b < J.next -> b ≠ a -> J'.blk b = J.blk b) : StoAt J' sb nb lb pb mb M S w L T (a :: X) Y := h.turn (K := [a]) ⟨hn, fun b h1 h2 => hb b h1 (by simpa using h2)⟩ (fun b hb => .inl (by simp at hb; simp [hb])) (fun b hb => .inl hb)
omit h hf in
theorem StoAt.drop {a : Nat} (h : StoAt J sb nb lb pb mb M S w L T (a :: X) Y) : StoAt J sb nb lb pb mb M S w L T X Y := h.turn (K := []) ⟨Nat.le_refl _, fun _ _ _ => rfl⟩ (fun b hb => by simp at hb) (fun b hb => .inl (by simp [hb]))
omit hf in
theorem StoAt.box : StoAt (J.bump 1) sb nb lb pb mb M S w L T (J.next :: X) Y := h.turn (K := []) ⟨by simp, fun b hb _ => rfl⟩ (by simp) (fun b hb => by
 rcases List.mem_cons.1 hb with rfl | hb
 ·exact .inr ⟨Nat.le_refl _, by simp⟩
 ·exact .inl hb)
theorem sheader_ok {o : Ob} {hd : Hd} (ho : o.has T L hd) : Ok (qme [.p (some (.n sb, 0)), .i .u64 o.ref] J) fun r => r.1 = .tup [.agg hd.av, .i .i64 0] /\ ∃ M', StoAt r.2 sb nb lb pb mb M' S w L T X Y /\ Beh Y M M' 3 0 0 /\ Tk M M' o.cost /\ Keep X J r.2 := by
 have hn := ho.n
 have hlt := h.lt
 have e0 : ((0 : Int) != 0) = false := rfl
 simp (maxSteps := 2000000) -implicitDefEqProofs (disch := (first | omega | rfl | assumption | (simp only [rsD]; first | omega | assumption))) only [qme, qmd, Nat.reduceAdd, Nat.reduceMul, Nat.reduceLT, Int.reduceToNat, Int.reduceAdd, Int.reduceSub, Int.reduceMul, rsU, rsC]
 have hb : StoAt ((J.bump 1).put J.next (.cells true 39 [.i .i64 0, .i .i64 0, .i .i64 0, .i .i64 0, .b false])) sb nb lb pb mb M S w L T (J.next :: X) Y := h.box.fill (by simp) (fun b h1 h2 => by simp -implicitDefEqProofs (disch := omega) only [s_bn, s_bs, s_kn, bump_blk])
 refine Ok.step (word_is hb hf ho.is (k := 0) (by omega)) fun r ⟨g1, M', g2, g3, g5, g4⟩ => ?_
 obtain ⟨q, J1⟩ := r
 rw [ho.w] at g1
 simp only at g1 g2 g4
 subst g1
 have n1 := g4.next
 simp only [rsD] at n1
 have b1 : J1.blk J.next = some (.cells true 39 [.i .i64 0, .i .i64 0, .i .i64 0, .i .i64 0, .b false]) := (g4.blk _ (by simp)).trans s_bs
 simp (maxSteps := 2000000) -implicitDefEqProofs (disch := (first | omega | rfl | assumption | (simp only [rsD]; first | omega | assumption))) only [e0, Nat.reduceAdd, Nat.reduceMul, Nat.reduceLT, Int.reduceToNat, Int.reduceAdd, Int.reduceSub, Int.reduceMul, rsU, rsC]
 refine Ok.step (unpack_hd J1 ho.ok) fun r ⟨k1, k2⟩ => ?_
 obtain ⟨q, J2⟩ := r
 simp only at k1 k2
 subst k1
 have b2 := (k2.blk _ (by omega)).trans b1
 simp (maxSteps := 2000000) -implicitDefEqProofs (disch := (first | omega | rfl | assumption | (simp only [rsD]; first | omega | assumption))) only [Hd.av, b2, Nat.reduceAdd, Nat.reduceMul, Nat.reduceLT, Int.reduceToNat, Int.reduceAdd, Int.reduceSub, Int.reduceMul, rsU, rsC]
 have n2 := k2.next
 exact Ok_some.2 ⟨rfl, M', ((g2.ext k2).fill (by simp) (fun b h1 h2 => by simp -implicitDefEqProofs (disch := omega) only [s_bn, s_bs, s_kn, bump_blk])).drop, g3, g5, ⟨by simp; omega, fun b hb => by
  have := hlt b hb
  have k3 := k2.blk b (by omega)
  have k4 := g4.blk b (by simp [hb])
  ((try simp only [rsD] at *); simp -implicitDefEqProofs (disch := (first | omega | rfl | assumption | (simp only [rsD]; first | omega | assumption))) only [s_bs, s_bn, s_kn, bump_blk])
  rw [k3, k4]
  simp -implicitDefEqProofs (disch := omega) only [s_bn, s_bs, s_kn, bump_blk]⟩⟩
omit h hf in
theorem sright_ok (J : AH O) {p r : Nat} (hp : p < 4096) (hr : r < 4096) : Ok (qde [.agg [.i .i64 (p : Int), .i .i64 (r : Int)]] J) fun q => q.1 = .b true /\ Ext J q.2 := by
 have hc : chkOf p r 0 0 = 0 := by unfold chkOf; rw [if_neg (by omega), if_neg (by omega), if_neg (by omega)]
 simp (maxSteps := 2000000) -implicitDefEqProofs (disch := (first | omega | rfl | assumption | (simp only [rsD]; first | omega | assumption))) only [qde, qdd, Nat.reduceAdd, Nat.reduceMul, Nat.reduceLT, Int.reduceToNat, Int.reduceAdd, Int.reduceSub, Int.reduceMul, rsU, rsC]
 refine Ok.step (check_ok _ (p : Int) (r : Int) 0 0 false) fun q ⟨g1, g2⟩ => ?_
 obtain ⟨q, J1⟩ := q
 simp only at g1 g2
 rw [hc] at g1
 subst g1
 simp (maxSteps := 2000000) -implicitDefEqProofs (disch := (first | omega | rfl | assumption | (simp only [rsD]; first | omega | assumption))) only [Nat.reduceAdd, Nat.reduceMul, Nat.reduceLT, Int.reduceToNat, Int.reduceAdd, Int.reduceSub, Int.reduceMul, rsU, rsC]
 exact Ok_some.2 ⟨rfl, (ext_of (by (have x0 := (g2).next); (try simp only [rsD] at *); omega) (fun b hb => by (have x0 := (g2).next); (try simp only [rsD] at *); simp -implicitDefEqProofs (disch := (first | omega | rfl | assumption | (simp only [rsD]; first | omega | assumption))) only [s_bn, s_kn, bump_blk, s_ext (g2)]))⟩
omit h hf in
theorem scell_ok (J : AH O) {p r : Nat} (hp : p < 4096) (hr : r < 4096) (k : Int) : Ok (qmj [.agg [.i .i64 (p : Int), .i .i64 (r : Int)], .i .i64 k] J) fun q => q.1 = (if 0 <= k /\ k < r then .tup [.i .i64 (1 + p + k), .i .i64 0] else .tup [.i .i64 0, .i .i64 32]) /\ Ext J q.2 := by
 simp (maxSteps := 2000000) -implicitDefEqProofs (disch := (first | omega | rfl | assumption | (simp only [rsD]; first | omega | assumption))) only [qmj, qmi, Nat.reduceAdd, Nat.reduceMul, Nat.reduceLT, Int.reduceToNat, Int.reduceAdd, Int.reduceSub, Int.reduceMul, rsU, rsC]
 refine Ok.step (sright_ok _ hp hr) fun q ⟨g1, g2⟩ => ?_
 obtain ⟨q, J1⟩ := q
 simp only at g1 g2
 subst g1
 have hb1 : J1.blk J.next = some (.cells true T_api_Shape [.i .i64 (p : Int), .i .i64 (r : Int)]) := (g2.blk _ (by simp)).trans (by simp -implicitDefEqProofs (disch := omega) only [s_bn, s_bs, s_kn, bump_blk])
 by_cases h1 : k < 0
 ·rw [if_neg (by omega)]
  simp (maxSteps := 2000000) -implicitDefEqProofs (disch := (first | omega | rfl | assumption | (simp only [rsD]; first | omega | assumption))) only [hb1, Nat.reduceAdd, Nat.reduceMul, Nat.reduceLT, Int.reduceToNat, Int.reduceAdd, Int.reduceSub, Int.reduceMul, rsU, rsC]
  exact Ok_some.2 ⟨rfl, (ext_of (by (have x0 := (g2).next); (try simp only [rsD] at *); omega) (fun b hb => by (have x0 := (g2).next); (try simp only [rsD] at *); simp -implicitDefEqProofs (disch := (first | omega | rfl | assumption | (simp only [rsD]; first | omega | assumption))) only [s_bn, s_kn, bump_blk, s_ext (g2)]))⟩
 ·by_cases h2 : k < r
  ·rw [if_pos (by omega)]
   simp (maxSteps := 2000000) -implicitDefEqProofs (disch := (first | omega | rfl | assumption | (simp only [rsD]; first | omega | assumption))) only [hb1, ge_iff_le, Nat.reduceAdd, Nat.reduceMul, Nat.reduceLT, Int.reduceToNat, Int.reduceAdd, Int.reduceSub, Int.reduceMul, rsU, rsC]
   exact Ok_some.2 ⟨rfl, (ext_of (by (have x0 := (g2).next); (try simp only [rsD] at *); omega) (fun b hb => by (have x0 := (g2).next); (try simp only [rsD] at *); simp -implicitDefEqProofs (disch := (first | omega | rfl | assumption | (simp only [rsD]; first | omega | assumption))) only [s_bn, s_kn, bump_blk, s_ext (g2)]))⟩
  ·rw [if_neg (by omega)]
   simp (maxSteps := 2000000) -implicitDefEqProofs (disch := (first | omega | rfl | assumption | (simp only [rsD]; first | omega | assumption))) only [hb1, ge_iff_le, Nat.reduceAdd, Nat.reduceMul, Nat.reduceLT, Int.reduceToNat, Int.reduceAdd, Int.reduceSub, Int.reduceMul, rsU, rsC]
   exact Ok_some.2 ⟨rfl, (ext_of (by (have x0 := (g2).next); (try simp only [rsD] at *); omega) (fun b hb => by (have x0 := (g2).next); (try simp only [rsD] at *); simp -implicitDefEqProofs (disch := (first | omega | rfl | assumption | (simp only [rsD]; first | omega | assumption))) only [s_bn, s_kn, bump_blk, s_ext (g2)]))⟩
omit hf in
theorem ssetraw_ok (hf : M.far 2000) {o : Ob} {hd : Hd} (ho : o.has T L hd) (k x : Int) : Ok (qmt [.p (some (.n sb, 0)), .i .u64 o.ref, .i .i64 k, .i .u64 x] J) fun r => r.1 = .i .i64 (if 0 <= k /\ k < hd.r then 0 else 32) /\ ∃ M', StoAt r.2 sb nb lb pb mb M' S w (if 0 <= k /\ k < hd.r then setL L o (1 + hd.p + k.toNat) x else L) (if 0 <= k /\ k < hd.r then setT T o (1 + hd.p + k.toNat) x else T) X Y /\ Beh Y M M' 6 0 0 /\ Tk M M' (if 0 <= k /\ k < hd.r then o.cost + o.cost else o.cost) /\ Keep X J r.2 := by
 have hlt := h.lt
 have hn := ho.n
 simp (maxSteps := 2000000) -implicitDefEqProofs (disch := (first | omega | rfl | assumption | (simp only [rsD]; first | omega | assumption))) only [qmt, qms, Nat.reduceAdd, Nat.reduceMul, Nat.reduceLT, Int.reduceToNat, Int.reduceAdd, Int.reduceSub, Int.reduceMul, rsU, rsC]
 refine Ok.step (sheader_ok h.box (hf.less (by decide)) ho) fun r ⟨g1, M1, g2, g3, g5, g4⟩ => ?_
 obtain ⟨q, J1⟩ := r
 simp only at g1 g2 g4
 subst g1
 have e0 : ((0 : Int) != 0) = false := rfl
 have e1 : ((32 : Int) != 0) = true := rfl
 have n1 := g4.next
 simp only [rsD] at n1
 simp (maxSteps := 2000000) -implicitDefEqProofs (disch := (first | omega | rfl | assumption | (simp only [rsD]; first | omega | assumption))) only [Hd.av, e0, Nat.reduceAdd, Nat.reduceMul, Nat.reduceLT, Int.reduceToNat, Int.reduceAdd, Int.reduceSub, Int.reduceMul, rsU, rsC]
 refine Ok.step (scell_ok _ ho.ok.p ho.ok.r k) fun r ⟨k1, k2⟩ => ?_
 obtain ⟨q, J2⟩ := r
 simp only at k1 k2
 have n2 := k2.next
 simp only [rsD] at n2
 have e2 : ∀ b, b < J1.next -> b ≠ J.next -> J2.blk b = J1.blk b := fun b hb hm => (k2.blk b (by simp only [rsD]; omega)).trans (by simp -implicitDefEqProofs (disch := omega) only [s_bn, s_bs, s_kn, bump_blk])
 have h2 := g2.fill n2 e2
 have kp : Keep X J J2 := ⟨by omega, fun b hb => by have := hlt b hb; rw [e2 b (by omega) (by omega), g4.blk b (by simp [hb])]; rfl⟩
 by_cases hk : 0 <= k /\ k < hd.r
 ·simp only [if_pos hk] at k1 ⊢
  subst k1
  obtain ⟨m, rfl⟩ := Int.eq_ofNat_of_zero_le hk.1
  simp (maxSteps := 2000000) -implicitDefEqProofs (disch := (first | omega | rfl | assumption | (simp only [rsD]; first | omega | assumption))) only [e0, Nat.reduceAdd, Nat.reduceMul, Nat.reduceLT, Int.reduceToNat, Int.reduceAdd, Int.reduceSub, Int.reduceMul, rsU, rsC]
  have hw := setword_is h2 (g3.far (hf.less (by decide)) : M1.far 1000) ho.is (k := 1 + hd.p + m) (by omega) x
  rw [Int.natCast_add, Int.natCast_add] at hw
  refine Ok.step hw fun r ⟨j1, M2, j2, j3, j5, j4⟩ => ?_
  obtain ⟨q, J3⟩ := r
  simp only at j1 j2 j4
  subst j1
  simp (maxSteps := 2000000) -implicitDefEqProofs (disch := (first | omega | rfl | assumption | (simp only [rsD]; first | omega | assumption))) only [Nat.reduceAdd, Nat.reduceMul, Nat.reduceLT, Int.reduceToNat, Int.reduceAdd, Int.reduceSub, Int.reduceMul, rsU, rsC]
  exact Ok_some.2 ⟨rfl, M2, j2.drop, (g3.trans j3).as (by decide) rfl rfl, g5.trans j5, kp.trans j4.tail⟩
 ·simp only [if_neg hk] at k1 ⊢
  subst k1
  simp (maxSteps := 2000000) -implicitDefEqProofs (disch := (first | omega | rfl | assumption | (simp only [rsD]; first | omega | assumption))) only [e1, Nat.reduceAdd, Nat.reduceMul, Nat.reduceLT, Int.reduceToNat, Int.reduceAdd, Int.reduceSub, Int.reduceMul, rsU, rsC]
  exact Ok_some.2 ⟨rfl, M1, h2.drop, g3.as (by decide) rfl rfl, g5, kp⟩
end
end Go.Abs.Tryz
namespace Go.Abs.Tryz
open Go Go.Abs
variable {O : Type}
def Hd.older (h : Hd) : Hd := { h with g := min (h.g + 1) 7 }
theorem Hd.ok.older {h : Hd} (k : h.ok) : h.older.ok := ⟨k.p, k.r, k.s, by show min (h.g + 1) 7 < 8; omega⟩
theorem older_ok (J : AH O) {h : Hd} (k : h.ok) : Ok (qpi [.i .u64 (h.word : Int)] J) fun r => r.1 = .tup [.i .u64 (h.older.word : Int), .i .i64 0] /\ Ext J r.2 := by
 have z0 : ((0 : Int) != 0) = false := rfl
 have h4 := k.g
 simp (maxSteps := 2000000) -implicitDefEqProofs (disch := (first | omega | rfl | assumption | (simp only [rsD]; first | omega | assumption))) only [qpi, qph, Nat.reduceAdd, Nat.reduceMul, Nat.reduceLT, Int.reduceToNat, Int.reduceAdd, Int.reduceSub, Int.reduceMul, rsU, rsC]
 refine Ok.step (unpack_hd _ k) fun q ⟨q1, q2⟩ => ?_
 obtain ⟨q, J1⟩ := q
 simp only at q1 q2
 subst q1
 have nx := q2.next
 simp only [rsD] at nx
 have pk := fun J : AH O => hpack_ok J k.older
 simp only [Hd.av, Hd.older] at pk ⊢
 simp (maxSteps := 2000000) -implicitDefEqProofs (disch := (first | omega | rfl | assumption | (simp only [rsD]; first | omega | assumption))) only [z0, Nat.reduceAdd, Nat.reduceMul, Nat.reduceLT, Int.reduceToNat, Int.reduceAdd, Int.reduceSub, Int.reduceMul, rsU, rsC]
 have e : (if 7 < (h.g : Int) + 1 then (7 : Int) else (h.g : Int) + 1) = ((min (h.g + 1) 7 : Nat) : Int) := by split <;> omega
 rw [e]
 refine Ok.step (pk _) fun q ⟨q3, q4⟩ => ?_
 obtain ⟨q, J2⟩ := q
 simp only at q3 q4
 subst q3
 simp (maxSteps := 2000000) -implicitDefEqProofs (disch := (first | omega | rfl | assumption | (simp only [rsD]; first | omega | assumption))) only [Nat.reduceAdd, Nat.reduceMul, Nat.reduceLT, Int.reduceToNat, Int.reduceAdd, Int.reduceSub, Int.reduceMul, rsU, rsC]
 refine Ok_some.2 ⟨rfl, ?_⟩
 exact (ext_of (by (have x0 := (q2).next); (have x1 := (q4).next); (try simp only [rsD] at *); omega) (fun b hb => by (have x0 := (q2).next); (have x1 := (q4).next); (try simp only [rsD] at *); simp -implicitDefEqProofs (disch := (first | omega | rfl | assumption | (simp only [rsD]; first | omega | assumption))) only [s_bn, s_kn, bump_blk, s_ext (q2), s_ext (q4)]))
def fwd (at_ : Nat) : Int := ((9223372036854775808 + at_ : Nat) : Int)
theorem or63 {n : Nat} (h : n < 2 ^ 63) : ibits .or .u64 9223372036854775808 (n : Int) = ((9223372036854775808 + n : Nat) : Int) := by
 show IntKind.u64.wrap (((BitVec.ofInt 64 9223372036854775808 ||| BitVec.ofInt 64 (n : Int)).toNat : Nat) : Int) = _
 rw [BitVec.toNat_or, bv_nat (by decide) (by decide), bv_nat (by omega) (by omega), Int.toNat_natCast]
 have := Nat.two_pow_add_eq_or_of_lt (i := 63) (b := n) h 1
 rw [show (9223372036854775808 : Int).toNat = 2 ^ 63 * 1 from rfl, <- this]
 exact s_u64 (by omega)
theorem forward_ok (J : AH O) {at_ : Nat} (h : at_ < 4194304) : qoy [.i .i64 (at_ : Int)] J = some (.tup [.i .u64 (fwd at_), .i .i64 0], J) := by
 have w1 := within12 J (at_ : Int) 4194303
 rw [decide_eq_true (by omega)] at w1
 simp (maxSteps := 2000000) -implicitDefEqProofs (disch := (first | omega | rfl | assumption | (simp only [rsD]; first | omega | assumption))) only [qoy, qox, w1, Bool.not_true, Nat.reduceAdd, Nat.reduceMul, Nat.reduceLT, Int.reduceToNat, Int.reduceAdd, Int.reduceSub, Int.reduceMul, rsU, rsC]
 rw [or63 (by omega)]; rfl
theorem forward_no (J : AH O) {at_ : Int} (h : ¬ (0 <= at_ /\ at_ < 4194304)) : qoy [.i .i64 at_] J = some (.tup [.i .u64 0, .i .i64 2], J) := by
 have w1 := within12 J at_ 4194303
 rw [decide_eq_false (by omega)] at w1
 simp (maxSteps := 2000000) -implicitDefEqProofs (disch := (first | omega | rfl | assumption | (simp only [rsD]; first | omega | assumption))) only [qoy, qox, w1, Bool.not_false, Nat.reduceAdd, Nat.reduceMul, Nat.reduceLT, Int.reduceToNat, Int.reduceAdd, Int.reduceSub, Int.reduceMul, rsU, rsC]
theorem forwarded_yes (J : AH O) {at_ : Nat} (h : at_ < 4194304) : Ok (qo3 [.i .u64 (fwd at_)] J) fun r => r.1 = .tup [.i .i64 (at_ : Int), .b true] /\ Ext J r.2 := by
 have z0 : ((0 : Int) == 0) = true := rfl
 have t1 : (false == false) = true := rfl
 simp (maxSteps := 2000000) -implicitDefEqProofs (disch := (first | omega | rfl | assumption | (simp only [rsD]; first | omega | assumption))) only [qo3, qo2, qot, qos, Nat.reduceAdd, Nat.reduceMul, Nat.reduceLT, Int.reduceToNat, Int.reduceAdd, Int.reduceSub, Int.reduceMul, rsU, rsC]
 refine Ok.step (fget_ok (w := 9223372036854775808 + at_) (a := 0) (s := 40) _ (by omega) (by omega) (by omega)) fun q ⟨q1, q2⟩ => ?_
 obtain ⟨q, J1⟩ := q
 simp only at q1 q2
 rw [show (9223372036854775808 + at_) / 2 ^ 0 % 2 ^ 40 = at_ by omega] at q1
 subst q1
 have f := forward_ok J1 h
 have bb : (fwd at_ == fwd at_) = true := by simp
 simp (maxSteps := 2000000) -implicitDefEqProofs (disch := (first | omega | rfl | assumption | (simp only [rsD]; first | omega | assumption))) only [f, bne, z0, t1, bb, Nat.reduceAdd, Nat.reduceMul, Nat.reduceLT, Int.reduceToNat, Int.reduceAdd, Int.reduceSub, Int.reduceMul, rsU, rsC]
 exact Ok_some.2 ⟨rfl, (ext_of (by (have x0 := (q2).next); (try simp only [rsD] at *); omega) (fun b hb => by (have x0 := (q2).next); (try simp only [rsD] at *); simp -implicitDefEqProofs (disch := (first | omega | rfl | assumption | (simp only [rsD]; first | omega | assumption))) only [s_bn, s_kn, bump_blk, s_ext (q2)]))⟩
theorem forwarded_no (J : AH O) {w : Nat} (h : w < 2 ^ 63) : Ok (qo3 [.i .u64 (w : Int)] J) fun r => r.1 = .tup [.i .i64 0, .b false] /\ Ext J r.2 := by
 have z0 : ((0 : Int) == 0) = true := rfl
 have z2 : ((2 : Int) == 0) = false := rfl
 have t1 : (false == false) = true := rfl
 have t2 : (true == false) = false := rfl
 simp (maxSteps := 2000000) -implicitDefEqProofs (disch := (first | omega | rfl | assumption | (simp only [rsD]; first | omega | assumption))) only [qo3, qo2, qot, qos, Nat.reduceAdd, Nat.reduceMul, Nat.reduceLT, Int.reduceToNat, Int.reduceAdd, Int.reduceSub, Int.reduceMul, rsU, rsC]
 refine Ok.step (fget_ok (w := w) (a := 0) (s := 40) _ (by omega) (by omega) (by omega)) fun q ⟨q1, q2⟩ => ?_
 obtain ⟨q, J1⟩ := q
 simp only at q1 q2
 subst q1
 obtain ⟨x, hx⟩ : ∃ x, x = w / 2 ^ 0 % 2 ^ 40 := ⟨_, rfl⟩
 rw [<- hx]
 have xl : x < 2 ^ 40 := by omega
 by_cases c : x < 4194304
 ·have f := forward_ok J1 c
  have bb : (fwd x == (w : Int)) = false := s_eqF (by unfold fwd; omega)
  simp (maxSteps := 2000000) -implicitDefEqProofs (disch := (first | omega | rfl | assumption | (simp only [rsD]; first | omega | assumption))) only [f, bne, z0, t1, bb, Nat.reduceAdd, Nat.reduceMul, Nat.reduceLT, Int.reduceToNat, Int.reduceAdd, Int.reduceSub, Int.reduceMul, rsU, rsC]
  exact Ok_some.2 ⟨rfl, (ext_of (by (have x0 := (q2).next); (try simp only [rsD] at *); omega) (fun b hb => by (have x0 := (q2).next); (try simp only [rsD] at *); simp -implicitDefEqProofs (disch := (first | omega | rfl | assumption | (simp only [rsD]; first | omega | assumption))) only [s_bn, s_kn, bump_blk, s_ext (q2)]))⟩
 ·have f := forward_no J1 (at_ := (x : Int)) (by omega)
  simp (maxSteps := 2000000) -implicitDefEqProofs (disch := (first | omega | rfl | assumption | (simp only [rsD]; first | omega | assumption))) only [f, bne, z2, t2, Nat.reduceAdd, Nat.reduceMul, Nat.reduceLT, Int.reduceToNat, Int.reduceAdd, Int.reduceSub, Int.reduceMul, rsU, rsC]
  exact Ok_some.2 ⟨rfl, (ext_of (by (have x0 := (q2).next); (try simp only [rsD] at *); omega) (fun b hb => by (have x0 := (q2).next); (try simp only [rsD] at *); simp -implicitDefEqProofs (disch := (first | omega | rfl | assumption | (simp only [rsD]; first | omega | assumption))) only [s_bn, s_kn, bump_blk, s_ext (q2)]))⟩
end Go.Abs.Tryz
