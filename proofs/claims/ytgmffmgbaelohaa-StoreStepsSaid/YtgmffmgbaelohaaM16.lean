/-
  Layers 14 and 16: the near space and the store over both kinds of objects: what is read, written and taken. No conditions.
-/
import Derived.Test.YtgmffmgbaelohaaM15
import Derived.Test.YtgmffmgbaelohaaM12
set_option linter.unusedVariables false
set_option linter.unusedSimpArgs false
set_option linter.constructorNameAsVariable false
set_option linter.unusedSimpArgs false
set_option linter.unusedVariables false
set_option linter.unusedSectionVars false
set_option maxHeartbeats 1000000
namespace Go.Abs.Try
open Go Go.Abs
variable {O : Type}

structure StoS where
  id : Int
  ws : List Int
  top : Nat
  old : List AV
  small : Int
def StoS.near (T : StoS) (mb : Nat) : List AV := .p (some (.n mb, 0)) :: .i .i64 T.id :: .i .i64 (T.top : Int) :: T.old
structure StoAt (σ : AH O) (sb nb lb pb mb : Nat) (M : MemS) (S : PoolS) (w : List Int) (L : LarS) (T : StoS) (X : List Nat) (Y : List Int) : Prop where
  l : LarAt σ lb pb mb M S w L (nb :: sb :: X) (T.id :: Y)
  n : ∃ el, σ.blk nb = some (.cells true el (T.near mb))
  s : ∃ el, σ.blk sb = some (.cells true el [.p (some (.n mb, 0)), .p (some (.n nb, 0)), .p (some (.n lb, 0)), .i .i64 T.small])
  now : wordsOf M.sp T.id = some T.ws
  top : T.top ≤ T.ws.length
  nd : nb ≠ sb ∧ nb ∉ X ∧ sb ∉ X
  oY : T.id ∉ Y
/-- another's space may turn, if it stays -/
theorem Objs.side {M M' : MemS} {V : Nat → Option (Int × Int × Int)} {sid : Int} {ob : Nat → Option (List Int)} {ep : Int} {H : List Nat} {Y : List Int} {id : Int} (h : Objs M V sid ob ep H (id :: Y)) (hw : ∀ y v, y ≠ id → wordsOf M.sp y = some v → wordsOf M'.sp y = some v) (hid : wordsOf M'.sp id ≠ none) : Objs M' V sid ob ep H (id :: Y) :=
  ⟨h.non, fun i ws ho => by
    obtain ⟨sp, mk, a1, a2, a3, a4, a5, a6, a7⟩ := h.at_ i ws ho
    exact ⟨sp, mk, a1, a2, a3, a4, hw sp ws (fun e => a7 (by simp [e])) a5, a6, a7⟩, h.apart, fun y hy => ⟨by
    by_cases e : y = id
    · rw [e]; exact hid
    · obtain ⟨g1, g2⟩ := h.others y hy
      cases hv : wordsOf M.sp y with
      | none => exact absurd hv g1
      | some v => rw [hw y v e hv]; simp, (h.others y hy).2⟩⟩
theorem within_side (σ : AH O) (id top at_ : Int) (h0 : -4611686018427387904 ≤ top ∧ top ≤ 4611686018427387904) (h1 : -9223372036854775808 ≤ at_ ∧ at_ ≤ 9223372036854775807) : Ok (semi_side__within [.agg [.i .i64 id, .i .i64 top], .i .i64 at_, .i .i64 1] σ) fun r => r.1 = .b (decide (0 ≤ at_ ∧ at_ < top)) ∧ Ext σ r.2 := by
  by_cases c1 : 0 ≤ at_
  · by_cases c2 : at_ ≤ top
    · simp (config := { maxSteps := 2000000 }) -implicitDefEqProofs (disch := (first | omega | rfl | assumption | (simp only [rsD]; first | omega | assumption))) only [semi_side__within, semi_side__within_c, ge_iff_le, Nat.reduceAdd, Nat.reduceMul, Nat.reduceLT, Int.reduceToNat, Int.reduceAdd, Int.reduceSub, Int.reduceMul, rsU, rsC]
      exact Ok_some.2 ⟨by show AV.b _ = AV.b _; congr 1; exact decide_eq_decide.2 (by omega), (ext_of (by simp only [put_next, bump_next, kill_next]; omega) (fun b hb => by simp -implicitDefEqProofs (disch := (first | omega | rfl | assumption | (simp only [rsD]; first | omega | assumption))) only [s_bn, s_kn, bump_blk, s_ext]))⟩
    · simp (config := { maxSteps := 2000000 }) -implicitDefEqProofs (disch := (first | omega | rfl | assumption | (simp only [rsD]; first | omega | assumption))) only [semi_side__within, semi_side__within_c, ge_iff_le, Nat.reduceAdd, Nat.reduceMul, Nat.reduceLT, Int.reduceToNat, Int.reduceAdd, Int.reduceSub, Int.reduceMul, rsU, rsC]
      exact Ok_some.2 ⟨by show AV.b _ = AV.b _; congr 1 <;> first | exact (decide_eq_false (by omega)).symm | exact decide_eq_decide.2 (by omega), (ext_of (by simp only [put_next, bump_next, kill_next]; omega) (fun b hb => by simp -implicitDefEqProofs (disch := (first | omega | rfl | assumption | (simp only [rsD]; first | omega | assumption))) only [s_bn, s_kn, bump_blk, s_ext]))⟩
  · simp (config := { maxSteps := 2000000 }) -implicitDefEqProofs (disch := (first | omega | rfl | assumption | (simp only [rsD]; first | omega | assumption))) only [semi_side__within, semi_side__within_c, ge_iff_le, Nat.reduceAdd, Nat.reduceMul, Nat.reduceLT, Int.reduceToNat, Int.reduceAdd, Int.reduceSub, Int.reduceMul, rsU, rsC]
    exact Ok_some.2 ⟨by show AV.b _ = AV.b _; congr 1 <;> first | exact (decide_eq_false (by omega)).symm | exact decide_eq_decide.2 (by omega), (ext_of (by simp only [put_next, bump_next, kill_next]; omega) (fun b hb => by simp -implicitDefEqProofs (disch := (first | omega | rfl | assumption | (simp only [rsD]; first | omega | assumption))) only [s_bn, s_kn, bump_blk, s_ext]))⟩
section
variable {σ : AH O} {sb nb lb pb mb : Nat} {M : MemS} {S : PoolS} {w : List Int} {L : LarS} {T : StoS} {X : List Nat} {Y : List Int} (h : StoAt σ sb nb lb pb mb M S w L T X Y)
include h
theorem StoAt.nlt : nb < σ.next := h.l.lX nb (by simp)
theorem StoAt.slt : sb < σ.next := h.l.lX sb (by simp)
theorem StoAt.tl : T.ws.length ≤ 4194304 := h.l.p.mi.wlen h.now
theorem StoAt.lt : ∀ b ∈ X, b < σ.next := fun b hb => h.l.lX b (by simp [hb])
theorem StoAt.ext {σ' : AH O} (e : Ext σ σ') : StoAt σ' sb nb lb pb mb M S w L T X Y :=
  { h with l := h.l.ext e, n := by obtain ⟨el, hn⟩ := h.n; exact ⟨el, (e.blk _ h.nlt).trans hn⟩, s := by obtain ⟨el, hs⟩ := h.s; exact ⟨el, (e.blk _ h.slt).trans hs⟩ }
/-- the large ones were turned -/
theorem StoAt.larged {σ' : AH O} {M' : MemS} {S' : PoolS} {w' : List Int} {L' : LarS} {k a c : Int} (l : LarAt σ' lb pb mb M' S' w' L' (nb :: sb :: X) (T.id :: Y)) (b : Beh (T.id :: Y) M M' k a c) (kp : Keep (nb :: sb :: X) σ σ') : StoAt σ' sb nb lb pb mb M' S' w' L' T X Y :=
  { h with l := l, n := by obtain ⟨el, hn⟩ := h.n; exact ⟨el, (kp.blk _ (by simp)).trans hn⟩, s := by obtain ⟨el, hs⟩ := h.s; exact ⟨el, (kp.blk _ (by simp)).trans hs⟩, now := (b.keep _ (by simp)).trans h.now }
/-- the near ones were turned -/
theorem StoAt.neared {σ' : AH O} {M' : MemS} {ws : List Int} (hi : MemIn σ' mb M' (pb :: lb :: nb :: sb :: X)) (kp : Keep (pb :: lb :: nb :: sb :: X) σ σ') (hw : ∀ y v, y ≠ T.id → wordsOf M.sp y = some v → wordsOf M'.sp y = some v) (hn : wordsOf M'.sp T.id = some ws) (hl : ws.length = T.ws.length) : StoAt σ' sb nb lb pb mb M' S w L { T with ws := ws } X Y := by
  have hne : S.id ≠ T.id := (h.l.o.others T.id (by simp)).2.symm
  obtain ⟨el, hb⟩ := h.l.b
  obtain ⟨el2, hb2⟩ := h.n
  obtain ⟨el3, hb3⟩ := h.s
  exact { l := { h.l with p := { h.l.p with mi := hi, b := (kp.blk _ (by simp)).trans h.l.p.b, now := hw _ _ hne h.l.p.now }, b := ⟨el, (kp.blk _ (by simp)).trans hb⟩, o := h.l.o.side hw (by rw [hn]; simp) }, n := ⟨el2, (kp.blk _ (by simp)).trans hb2⟩, s := ⟨el3, (kp.blk _ (by simp)).trans hb3⟩, now := hn, top := by rw [hl]; exact h.top, nd := h.nd, oY := h.oY }
theorem ssize_ok : semi_Semi__Size [.p (some (.n nb, 0))] σ = some (.i .i64 (T.ws.length : Int), σ) := by
  obtain ⟨el, hn⟩ := h.n
  simp only [StoS.near] at hn
  simp (config := { maxSteps := 2000000 }) -implicitDefEqProofs (disch := (first | omega | rfl | assumption | (simp only [rsD]; first | omega | assumption))) only [semi_Semi__Size, semi_Semi__Size_c, hn, sizeX h.l.p.mi h.now, Nat.reduceAdd, Nat.reduceMul, Nat.reduceLT, Int.reduceToNat, Int.reduceAdd, Int.reduceSub, Int.reduceMul, rsU, rsC]
theorem stake_few {n : Int} (hn : n < 1) : semi_Semi__Take [.p (some (.n nb, 0)), .i .i64 n] σ = some (.tup [.i .i64 0, .i .i64 1], σ) := by
  simp (config := { maxSteps := 2000000 }) -implicitDefEqProofs (disch := (first | omega | rfl | assumption | (simp only [rsD]; first | omega | assumption))) only [semi_Semi__Take, semi_Semi__Take_c, Nat.reduceAdd, Nat.reduceMul, Nat.reduceLT, Int.reduceToNat, Int.reduceAdd, Int.reduceSub, Int.reduceMul, rsU, rsC]
theorem stake_no {n : Int} (h1 : 1 ≤ n) (hn : T.ws.length < T.top + n) : semi_Semi__Take [.p (some (.n nb, 0)), .i .i64 n] σ = some (.tup [.i .i64 0, .i .i64 3], σ) := by
  obtain ⟨el, hb⟩ := h.n
  simp only [StoS.near] at hb
  have htl := h.tl
  have htp := h.top
  simp (config := { maxSteps := 2000000 }) -implicitDefEqProofs (disch := (first | omega | rfl | assumption | (simp only [rsD]; first | omega | assumption))) only [semi_Semi__Take, semi_Semi__Take_c, semi_Semi__Room, semi_Semi__Room_c, hb, ssize_ok h, Nat.reduceAdd, Nat.reduceMul, Nat.reduceLT, Int.reduceToNat, Int.reduceAdd, Int.reduceSub, Int.reduceMul, rsU, rsC]
theorem stake_ok {n : Nat} (h1 : 1 ≤ n) (hn : T.top + n ≤ T.ws.length) : Ok (semi_Semi__Take [.p (some (.n nb, 0)), .i .i64 (n : Int)] σ) fun r => r.1 = .tup [.i .i64 (T.top : Int), .i .i64 0] ∧ StoAt r.2 sb nb lb pb mb M S w L { T with top := T.top + n } X Y ∧ Keep X σ r.2 := by
  obtain ⟨el, hb⟩ := h.n
  obtain ⟨el2, hb2⟩ := h.s
  simp only [StoS.near] at hb
  have htl := h.tl
  have htp := h.top
  simp (config := { maxSteps := 2000000 }) -implicitDefEqProofs (disch := (first | omega | rfl | assumption | (simp only [rsD]; first | omega | assumption))) only [semi_Semi__Take, semi_Semi__Take_c, semi_Semi__Room, semi_Semi__Room_c, hb, ssize_ok h, Nat.reduceAdd, Nat.reduceMul, Nat.reduceLT, Int.reduceToNat, Int.reduceAdd, Int.reduceSub, Int.reduceMul, rsU, rsC]
  refine Ok_some.2 ⟨rfl, ⟨?_, ⟨el, s_bs.trans (by simp only [StoS.near]; rw [Int.natCast_add])⟩, ⟨el2, (s_bn h.nd.1.symm).trans hb2⟩, h.now, hn, h.nd, h.oY⟩, Keep.put h.nd.2.1 _⟩
  exact h.l.turn (K := [nb]) ⟨by simp, fun c hc hm => s_bn (by simpa using hm)⟩ (fun c hc => .inl (by simp at hc; simp [hc])) (fun b hb => .inl hb)
variable (hf : M.far 100)
include hf
theorem sread_ok {at_ : Int} (ha : 0 ≤ at_ ∧ at_ < T.top) : Ok (semi_Semi__Read [.p (some (.n nb, 0)), .i .i64 at_] σ) fun r => r.1 = .tup [.i .u64 (T.ws.getD at_.toNat 0), .i .i64 0] ∧ ∃ M', StoAt r.2 sb nb lb pb mb M' S w L T X Y ∧ Beh Y M M' 1 0 0 ∧ M'.met.r + M'.met.w = M.met.r + M.met.w + 1 ∧ Keep X σ r.2 := by
  obtain ⟨el, hb⟩ := h.n
  simp only [StoS.near] at hb
  have htl := h.tl
  have htp := h.top
  simp (config := { maxSteps := 2000000 }) -implicitDefEqProofs (disch := (first | omega | rfl | assumption | (simp only [rsD]; first | omega | assumption))) only [semi_Semi__Read, semi_Semi__Read_c, hb, Nat.reduceAdd, Nat.reduceMul, Nat.reduceLT, Int.reduceToNat, Int.reduceAdd, Int.reduceSub, Int.reduceMul, rsU, rsC]
  refine Ok.step (within_side σ T.id T.top at_ (by omega) (by omega)) fun r ⟨g1, g2⟩ => ?_
  obtain ⟨q, σ1⟩ := r
  simp only at g1 g2
  rw [decide_eq_true ha] at g1
  subst g1
  have h1 := h.ext g2
  have hb1 := (g2.blk _ h.nlt).trans hb
  simp (config := { maxSteps := 2000000 }) -implicitDefEqProofs (disch := (first | omega | rfl | assumption | (simp only [rsD]; first | omega | assumption))) only [hb1, Nat.reduceAdd, Nat.reduceMul, Nat.reduceLT, Int.reduceToNat, Int.reduceAdd, Int.reduceSub, Int.reduceMul, rsU, rsC]
  refine Ok.step (readXT h1.l.p.mi (hf.calm (by decide)) (id := T.id) (at_ := at_) (by omega)) fun r ⟨k1, k2, k3⟩ => ?_
  obtain ⟨q, σ2⟩ := r
  rw [readR_of h.now, if_pos (by omega)] at k1 k2
  simp only at k1 k2 k3
  subst k1
  simp (config := { maxSteps := 2000000 }) -implicitDefEqProofs (disch := (first | omega | rfl | assumption | (simp only [rsD]; first | omega | assumption))) only [Nat.reduceAdd, Nat.reduceMul, Nat.reduceLT, Int.reduceToNat, Int.reduceAdd, Int.reduceSub, Int.reduceMul, rsU, rsC]
  have hnear := h1.neared (ws := T.ws) k2 k3 (fun y v _ hv => hv) h.now rfl
  exact Ok_some.2 ⟨rfl, M.rd 1, hnear, Beh.rd, by simp only [MemS.rd]; omega, ((h.l.p.mi.keepExt g2).trans k3).mono fun b hb => by simp [hb]⟩
theorem sread_no {at_ : Int} (hr : -9223372036854775808 ≤ at_ ∧ at_ ≤ 9223372036854775807) (ha : ¬ (0 ≤ at_ ∧ at_ < T.top)) : Ok (semi_Semi__Read [.p (some (.n nb, 0)), .i .i64 at_] σ) fun r => r.1 = .tup [.i .u64 0, .i .i64 11] ∧ Ext σ r.2 := by
  obtain ⟨el, hb⟩ := h.n
  simp only [StoS.near] at hb
  have htl := h.tl
  have htp := h.top
  simp (config := { maxSteps := 2000000 }) -implicitDefEqProofs (disch := (first | omega | rfl | assumption | (simp only [rsD]; first | omega | assumption))) only [semi_Semi__Read, semi_Semi__Read_c, hb, Nat.reduceAdd, Nat.reduceMul, Nat.reduceLT, Int.reduceToNat, Int.reduceAdd, Int.reduceSub, Int.reduceMul, rsU, rsC]
  refine Ok.step (within_side σ T.id T.top at_ (by omega) (by omega)) fun r ⟨g1, g2⟩ => ?_
  obtain ⟨q, σ1⟩ := r
  simp only at g1 g2
  rw [decide_eq_false ha] at g1
  subst g1
  simp (config := { maxSteps := 2000000 }) -implicitDefEqProofs (disch := (first | omega | rfl | assumption | (simp only [rsD]; first | omega | assumption))) only [Nat.reduceAdd, Nat.reduceMul, Nat.reduceLT, Int.reduceToNat, Int.reduceAdd, Int.reduceSub, Int.reduceMul, rsU, rsC]
  exact Ok_some.2 ⟨rfl, g2⟩
theorem swrite_no {at_ x : Int} (hr : -9223372036854775808 ≤ at_ ∧ at_ ≤ 9223372036854775807) (ha : ¬ (0 ≤ at_ ∧ at_ < T.top)) : Ok (semi_Semi__Write [.p (some (.n nb, 0)), .i .i64 at_, .i .u64 x] σ) fun r => r.1 = .i .i64 11 ∧ Ext σ r.2 := by
  obtain ⟨el, hb⟩ := h.n
  simp only [StoS.near] at hb
  have htl := h.tl
  have htp := h.top
  simp (config := { maxSteps := 2000000 }) -implicitDefEqProofs (disch := (first | omega | rfl | assumption | (simp only [rsD]; first | omega | assumption))) only [semi_Semi__Write, semi_Semi__Write_c, hb, Nat.reduceAdd, Nat.reduceMul, Nat.reduceLT, Int.reduceToNat, Int.reduceAdd, Int.reduceSub, Int.reduceMul, rsU, rsC]
  refine Ok.step (within_side σ T.id T.top at_ (by omega) (by omega)) fun r ⟨g1, g2⟩ => ?_
  obtain ⟨q, σ1⟩ := r
  simp only at g1 g2
  rw [decide_eq_false ha] at g1
  subst g1
  simp (config := { maxSteps := 2000000 }) -implicitDefEqProofs (disch := (first | omega | rfl | assumption | (simp only [rsD]; first | omega | assumption))) only [Nat.reduceAdd, Nat.reduceMul, Nat.reduceLT, Int.reduceToNat, Int.reduceAdd, Int.reduceSub, Int.reduceMul, rsU, rsC]
  exact Ok_some.2 ⟨rfl, g2⟩
theorem swrite_ok {at_ x : Int} (ha : 0 ≤ at_ ∧ at_ < T.top) : Ok (semi_Semi__Write [.p (some (.n nb, 0)), .i .i64 at_, .i .u64 x] σ) fun r => r.1 = .i .i64 0 ∧ ∃ M', StoAt r.2 sb nb lb pb mb M' S w L { T with ws := T.ws.set at_.toNat x } X Y ∧ Beh Y M M' 1 0 0 ∧ M'.met.r + M'.met.w = M.met.r + M.met.w + 1 ∧ Keep X σ r.2 := by
  obtain ⟨el, hb⟩ := h.n
  simp only [StoS.near] at hb
  have htl := h.tl
  have htp := h.top
  simp (config := { maxSteps := 2000000 }) -implicitDefEqProofs (disch := (first | omega | rfl | assumption | (simp only [rsD]; first | omega | assumption))) only [semi_Semi__Write, semi_Semi__Write_c, hb, Nat.reduceAdd, Nat.reduceMul, Nat.reduceLT, Int.reduceToNat, Int.reduceAdd, Int.reduceSub, Int.reduceMul, rsU, rsC]
  refine Ok.step (within_side σ T.id T.top at_ (by omega) (by omega)) fun r ⟨g1, g2⟩ => ?_
  obtain ⟨q, σ1⟩ := r
  simp only at g1 g2
  rw [decide_eq_true ha] at g1
  subst g1
  have h1 := h.ext g2
  have hb1 := (g2.blk _ h.nlt).trans hb
  simp (config := { maxSteps := 2000000 }) -implicitDefEqProofs (disch := (first | omega | rfl | assumption | (simp only [rsD]; first | omega | assumption))) only [hb1, Nat.reduceAdd, Nat.reduceMul, Nat.reduceLT, Int.reduceToNat, Int.reduceAdd, Int.reduceSub, Int.reduceMul, rsU, rsC]
  refine Ok.step (writeXT h1.l.p.mi (hf.calm (by decide)) (id := T.id) (at_ := at_) (x := x) (by omega)) fun r ⟨k1, k2, k3⟩ => ?_
  obtain ⟨q, σ2⟩ := r
  rw [writeR_of h.now, if_pos (by omega)] at k1 k2
  simp only at k1 k2 k3
  subst k1
  simp (config := { maxSteps := 2000000 }) -implicitDefEqProofs (disch := (first | omega | rfl | assumption | (simp only [rsD]; first | omega | assumption))) only [Nat.reduceAdd, Nat.reduceMul, Nat.reduceLT, Int.reduceToNat, Int.reduceAdd, Int.reduceSub, Int.reduceMul, rsU, rsC]
  have h0 := (wordsOf_some h.now).1
  have hnear := h1.neared (ws := T.ws.set at_.toNat x) k2 k3 (fun y v hy hv => (wordsOf_other hy h0).trans hv) (wordsOf_mk h0 (by simp [MemS.put, MemS.wr, (List.getElem?_eq_some_iff.1 (wordsOf_some h.now).2).1])) (by simp)
  exact Ok_some.2 ⟨rfl, _, hnear, Beh.wrp h0 h.oY, by simp only [MemS.wr, MemS.put]; omega, ((h.l.p.mi.keepExt g2).trans k3).mono fun b hb => by simp [hb]⟩
end
end Go.Abs.Try
set_option linter.unusedSimpArgs false
set_option linter.unusedVariables false
set_option linter.unusedSectionVars false
set_option maxHeartbeats 1000000
namespace Go.Abs.Try
open Go Go.Abs
variable {O : Type}

theorem and1 {n : Nat} (h : n < 2 ^ 64) : ibits .and .u64 (n : Int) 1 = ((n % 2 : Nat) : Int) := by
  show IntKind.u64.wrap (((BitVec.ofInt 64 (n : Int) &&& BitVec.ofInt 64 1).toNat : Nat) : Int) = _
  rw [BitVec.toNat_and, bv_nat (by omega) (by omega), bv_nat (by decide) (by decide), Int.toNat_natCast, show (1 : Int).toNat = 2 ^ 1 - 1 from rfl, Nat.and_two_pow_sub_one_eq_mod]
  exact s_u64 (by omega)
theorem or1 {n : Nat} (h : n < 2 ^ 63) : ibits .or .u64 ((2 * n : Nat) : Int) 1 = ((2 * n + 1 : Nat) : Int) := by
  show IntKind.u64.wrap (((BitVec.ofInt 64 ((2 * n : Nat) : Int) ||| BitVec.ofInt 64 1).toNat : Nat) : Int) = _
  rw [BitVec.toNat_or, bv_nat (by omega) (by omega), bv_nat (by decide) (by decide), Int.toNat_natCast]
  have := Nat.two_pow_add_eq_or_of_lt (i := 1) (b := 1) (by decide) n
  rw [show (1 : Int).toNat = 1 from rfl, show 2 * n = 2 ^ 1 * n from rfl, ← this]
  exact s_u64 (by omega)
def rsm (at_ : Nat) : Int := ((2 * at_ + 1 : Nat) : Int)
def rlg (i : Nat) : Int := ((2 * (i + 1) : Nat) : Int)
theorem tosmall_ok (σ : AH O) {at_ : Nat} (h : at_ < 4194304) : ref_ToSmall [.i .i64 (at_ : Int)] σ = some (.tup [.i .u64 (rsm at_), .i .i64 0], σ) := by
  have e : IntKind.u64.wrap ((at_ : Int) * 2 ^ 1) = ((2 * at_ : Nat) : Int) := by rw [s_u64 (by omega)]; omega
  simp (config := { maxSteps := 2000000 }) -implicitDefEqProofs (disch := (first | omega | rfl | assumption | (simp only [rsD]; first | omega | assumption))) only [ref_ToSmall, ref_ToSmall_c, ge_iff_le, e, or1 (n := at_) (by omega), Nat.reduceAdd, Nat.reduceMul, Nat.reduceLT, Int.reduceToNat, Int.reduceAdd, Int.reduceSub, Int.reduceMul, rsU, rsC]
  rfl
theorem tolarge_ok (σ : AH O) {i : Nat} (h : i < 1048576) : ref_ToLarge [.i .i64 ((i : Int) + 1)] σ = some (.tup [.i .u64 (rlg i), .i .i64 0], σ) := by
  have e : IntKind.u64.wrap (((i : Int) + 1) * 2 ^ 1) = ((2 * (i + 1) : Nat) : Int) := by rw [s_u64 (by omega)]; omega
  simp (config := { maxSteps := 2000000 }) -implicitDefEqProofs (disch := (first | omega | rfl | assumption | (simp only [rsD]; first | omega | assumption))) only [ref_ToLarge, ref_ToLarge_c, gt_iff_lt, e, Nat.reduceAdd, Nat.reduceMul, Nat.reduceLT, Int.reduceToNat, Int.reduceAdd, Int.reduceSub, Int.reduceMul, rsU, rsC]
  rfl
theorem kind_sm (σ : AH O) {at_ : Nat} (h : at_ < 4194304) : ref_Ref__Kind [.i .u64 (rsm at_)] σ = some (.i .i64 1, σ) := by
  have e1 : ibits .and .u64 (rsm at_) 1 = 1 := by unfold rsm; rw [and1 (by omega)]; omega
  have e2 : Int.fdiv (rsm at_) (2 ^ 1) = (at_ : Int) := by unfold rsm; rw [Int.fdiv_eq_ediv_of_nonneg _ (by decide)]; omega
  have e3 : (rsm at_ == 0) = false := by unfold rsm; simp; omega
  have e4 : ((1 : Int) == 1) = true := rfl
  simp (config := { maxSteps := 2000000 }) -implicitDefEqProofs (disch := (first | omega | rfl | assumption | (simp only [rsD]; first | omega | assumption))) only [ref_Ref__Kind, ref_Ref__Kind_c, e1, e2, e3, e4, Nat.reduceAdd, Nat.reduceMul, Nat.reduceLT, Int.reduceToNat, Int.reduceAdd, Int.reduceSub, Int.reduceMul, rsU, rsC]
theorem kind_lg (σ : AH O) {i : Nat} (h : i < 1048576) : ref_Ref__Kind [.i .u64 (rlg i)] σ = some (.i .i64 2, σ) := by
  have e1 : ibits .and .u64 (rlg i) 1 = 0 := by unfold rlg; rw [and1 (by omega)]; omega
  have e2 : Int.fdiv (rlg i) (2 ^ 1) = (i : Int) + 1 := by unfold rlg; rw [Int.fdiv_eq_ediv_of_nonneg _ (by decide)]; omega
  have e3 : (rlg i == 0) = false := by unfold rlg; simp; omega
  have e4 : ((0 : Int) == 1) = false := rfl
  have e5 : ((0 : Int) == 0) = true := rfl
  simp (config := { maxSteps := 2000000 }) -implicitDefEqProofs (disch := (first | omega | rfl | assumption | (simp only [rsD]; first | omega | assumption))) only [ref_Ref__Kind, ref_Ref__Kind_c, e1, e2, e3, e4, e5, Nat.reduceAdd, Nat.reduceMul, Nat.reduceLT, Int.reduceToNat, Int.reduceAdd, Int.reduceSub, Int.reduceMul, rsU, rsC]
theorem at_sm (σ : AH O) {at_ : Nat} (h : at_ < 4194304) : ref_Ref__At [.i .u64 (rsm at_)] σ = some (.i .i64 (at_ : Int), σ) := by
  have e2 : Int.fdiv (rsm at_) (2 ^ 1) = (at_ : Int) := by unfold rsm; rw [Int.fdiv_eq_ediv_of_nonneg _ (by decide)]; omega
  have e4 : ((1 : Int) == 1) = true := rfl
  simp (config := { maxSteps := 2000000 }) -implicitDefEqProofs (disch := (first | omega | rfl | assumption | (simp only [rsD]; first | omega | assumption))) only [ref_Ref__At, ref_Ref__At_c, kind_sm σ h, e2, e4, Nat.reduceAdd, Nat.reduceMul, Nat.reduceLT, Int.reduceToNat, Int.reduceAdd, Int.reduceSub, Int.reduceMul, rsU, rsC]
theorem at_lg (σ : AH O) {i : Nat} (h : i < 1048576) : ref_Ref__At [.i .u64 (rlg i)] σ = some (.i .i64 ((i : Int) + 1), σ) := by
  have e2 : Int.fdiv (rlg i) (2 ^ 1) = (i : Int) + 1 := by unfold rlg; rw [Int.fdiv_eq_ediv_of_nonneg _ (by decide)]; omega
  have e4 : ((2 : Int) == 1) = false := rfl
  have e5 : ((2 : Int) == 2) = true := rfl
  simp (config := { maxSteps := 2000000 }) -implicitDefEqProofs (disch := (first | omega | rfl | assumption | (simp only [rsD]; first | omega | assumption))) only [ref_Ref__At, ref_Ref__At_c, kind_lg σ h, e2, e4, e5, Nat.reduceAdd, Nat.reduceMul, Nat.reduceLT, Int.reduceToNat, Int.reduceAdd, Int.reduceSub, Int.reduceMul, rsU, rsC]
section
variable {σ : AH O} {sb nb lb pb mb : Nat} {M : MemS} {S : PoolS} {w : List Int} {L : LarS} {T : StoS} {X : List Nat} {Y : List Int} (h : StoAt σ sb nb lb pb mb M S w L T X Y)
include h
theorem StoAt.oblt {i : Nat} {ws : List Int} (ho : L.ob i = some ws) : i < 1048576 := by
  obtain ⟨e, sp, mk, he, _⟩ := h.l.at ho
  have := (List.getElem?_eq_some_iff.1 he).1
  have := h.l.el
  omega
theorem StoAt.toplt : T.top ≤ 4194304 := Nat.le_trans h.top h.tl
variable (hf : M.far 1000)
include hf
theorem word_sm {at_ : Nat} {k : Int} (hk : 0 ≤ k) (ha : (at_ : Int) + k < T.top) : Ok (store_Store__Word [.p (some (.n sb, 0)), .i .u64 (rsm at_), .i .i64 k] σ) fun r => r.1 = .tup [.i .u64 (T.ws.getD (at_ + k.toNat) 0), .i .i64 0] ∧ ∃ M', StoAt r.2 sb nb lb pb mb M' S w L T X Y ∧ Beh Y M M' 3 0 0 ∧ Keep X σ r.2 := by
  obtain ⟨el, hs⟩ := h.s
  have htp := h.toplt
  have hlt : at_ < 4194304 := by omega
  have e1 : ((1 : Int) == 0) = false := rfl
  have e2 : ((1 : Int) == 1) = true := rfl
  simp (config := { maxSteps := 2000000 }) -implicitDefEqProofs (disch := (first | omega | rfl | assumption | (simp only [rsD]; first | omega | assumption))) only [store_Store__Word, store_Store__Word_c, kind_sm σ hlt, at_sm σ hlt, e1, e2, hs, Nat.reduceAdd, Nat.reduceMul, Nat.reduceLT, Int.reduceToNat, Int.reduceAdd, Int.reduceSub, Int.reduceMul, rsU, rsC]
  refine Ok.step (sread_ok h (hf.less (by decide)) (at_ := (at_ : Int) + k) (by omega)) fun r ⟨g1, M', g2, g3, _, g4⟩ => ?_
  obtain ⟨q, σ1⟩ := r
  simp only at g1 g2 g4
  subst g1
  simp (config := { maxSteps := 2000000 }) -implicitDefEqProofs (disch := (first | omega | rfl | assumption | (simp only [rsD]; first | omega | assumption))) only [Nat.reduceAdd, Nat.reduceMul, Nat.reduceLT, Int.reduceToNat, Int.reduceAdd, Int.reduceSub, Int.reduceMul, rsU, rsC]
  exact Ok_some.2 ⟨by rw [show ((at_ : Int) + k).toNat = at_ + k.toNat by omega], M', g2, g3.as (by decide) rfl rfl, g4⟩
theorem setword_sm {at_ : Nat} {k x : Int} (hk : 0 ≤ k) (ha : (at_ : Int) + k < T.top) : Ok (store_Store__SetWord [.p (some (.n sb, 0)), .i .u64 (rsm at_), .i .i64 k, .i .u64 x] σ) fun r => r.1 = .i .i64 0 ∧ ∃ M', StoAt r.2 sb nb lb pb mb M' S w L { T with ws := T.ws.set (at_ + k.toNat) x } X Y ∧ Beh Y M M' 3 0 0 ∧ Keep X σ r.2 := by
  obtain ⟨el, hs⟩ := h.s
  have htp := h.toplt
  have hlt : at_ < 4194304 := by omega
  have e1 : ((1 : Int) == 0) = false := rfl
  have e2 : ((1 : Int) == 1) = true := rfl
  simp (config := { maxSteps := 2000000 }) -implicitDefEqProofs (disch := (first | omega | rfl | assumption | (simp only [rsD]; first | omega | assumption))) only [store_Store__SetWord, store_Store__SetWord_c, kind_sm σ hlt, at_sm σ hlt, e1, e2, hs, Nat.reduceAdd, Nat.reduceMul, Nat.reduceLT, Int.reduceToNat, Int.reduceAdd, Int.reduceSub, Int.reduceMul, rsU, rsC]
  refine Ok.step (swrite_ok h (hf.less (by decide)) (at_ := (at_ : Int) + k) (x := x) (by omega)) fun r ⟨g1, M', g2, g3, _, g4⟩ => ?_
  obtain ⟨q, σ1⟩ := r
  simp only at g1 g2 g4
  subst g1
  simp (config := { maxSteps := 2000000 }) -implicitDefEqProofs (disch := (first | omega | rfl | assumption | (simp only [rsD]; first | omega | assumption))) only [Nat.reduceAdd, Nat.reduceMul, Nat.reduceLT, Int.reduceToNat, Int.reduceAdd, Int.reduceSub, Int.reduceMul, rsU, rsC]
  rw [show ((at_ : Int) + k).toNat = at_ + k.toNat by omega] at g2
  exact Ok_some.2 ⟨rfl, M', g2, g3.as (by decide) rfl rfl, g4⟩
theorem word_lg {i : Nat} {ws : List Int} (ho : L.ob i = some ws) {k : Int} (hk : 0 ≤ k ∧ k < ws.length) : Ok (store_Store__Word [.p (some (.n sb, 0)), .i .u64 (rlg i), .i .i64 k] σ) fun r => r.1 = .tup [.i .u64 (ws.getD k.toNat 0), .i .i64 0] ∧ ∃ M', StoAt r.2 sb nb lb pb mb M' S w L T X Y ∧ Beh Y M M' 3 0 0 ∧ Keep X σ r.2 := by
  obtain ⟨el, hs⟩ := h.s
  have hlt := h.oblt ho
  have hol := h.l.ol ho
  have e1 : ((2 : Int) == 0) = false := rfl
  have e2 : ((2 : Int) == 1) = false := rfl
  have e3 : ((2 : Int) == 2) = true := rfl
  simp (config := { maxSteps := 2000000 }) -implicitDefEqProofs (disch := (first | omega | rfl | assumption | (simp only [rsD]; first | omega | assumption))) only [store_Store__Word, store_Store__Word_c, kind_lg σ hlt, at_lg σ hlt, e1, e2, e3, hs, Nat.reduceAdd, Nat.reduceMul, Nat.reduceLT, Int.reduceToNat, Int.reduceAdd, Int.reduceSub, Int.reduceMul, rsU, rsC]
  refine Ok.step (lread_ok h.l hf ho (at_ := k) (by omega)) fun r ⟨g1, M', g2, g3, g4⟩ => ?_
  obtain ⟨q, σ1⟩ := r
  rw [if_pos hk] at g1
  simp only at g1 g2 g4
  subst g1
  simp (config := { maxSteps := 2000000 }) -implicitDefEqProofs (disch := (first | omega | rfl | assumption | (simp only [rsD]; first | omega | assumption))) only [Nat.reduceAdd, Nat.reduceMul, Nat.reduceLT, Int.reduceToNat, Int.reduceAdd, Int.reduceSub, Int.reduceMul, rsU, rsC]
  exact Ok_some.2 ⟨rfl, M', h.larged g2 g3 g4, g3.mono fun y hy => by simp [hy], g4.tail.tail⟩
theorem setword_lg {i : Nat} {ws : List Int} (ho : L.ob i = some ws) {k x : Int} (hk : 0 ≤ k ∧ k < ws.length) : Ok (store_Store__SetWord [.p (some (.n sb, 0)), .i .u64 (rlg i), .i .i64 k, .i .u64 x] σ) fun r => r.1 = .i .i64 0 ∧ ∃ M', StoAt r.2 sb nb lb pb mb M' S w { L with ob := fun j => if j = i then some (ws.set k.toNat x) else L.ob j } T X Y ∧ Beh Y M M' 3 0 0 ∧ Keep X σ r.2 := by
  obtain ⟨el, hs⟩ := h.s
  have hlt := h.oblt ho
  have hol := h.l.ol ho
  have e1 : ((2 : Int) == 0) = false := rfl
  have e2 : ((2 : Int) == 1) = false := rfl
  have e3 : ((2 : Int) == 2) = true := rfl
  simp (config := { maxSteps := 2000000 }) -implicitDefEqProofs (disch := (first | omega | rfl | assumption | (simp only [rsD]; first | omega | assumption))) only [store_Store__SetWord, store_Store__SetWord_c, kind_lg σ hlt, at_lg σ hlt, e1, e2, e3, hs, Nat.reduceAdd, Nat.reduceMul, Nat.reduceLT, Int.reduceToNat, Int.reduceAdd, Int.reduceSub, Int.reduceMul, rsU, rsC]
  refine Ok.step (lwrite_ok h.l hf ho (at_ := k) (x := x) hk) fun r ⟨g1, M', g2, g3, g4⟩ => ?_
  obtain ⟨q, σ1⟩ := r
  simp only at g1 g2 g4
  subst g1
  simp (config := { maxSteps := 2000000 }) -implicitDefEqProofs (disch := (first | omega | rfl | assumption | (simp only [rsD]; first | omega | assumption))) only [Nat.reduceAdd, Nat.reduceMul, Nat.reduceLT, Int.reduceToNat, Int.reduceAdd, Int.reduceSub, Int.reduceMul, rsU, rsC]
  exact Ok_some.2 ⟨rfl, M', h.larged g2 g3 g4, g3.mono fun y hy => by simp [hy], g4.tail.tail⟩
end
end Go.Abs.Try
set_option linter.unusedSimpArgs false
set_option linter.unusedVariables false
set_option linter.unusedSectionVars false
set_option maxHeartbeats 2000000
namespace Go.Abs.Try
open Go Go.Abs
variable {O : Type}

/-- how many words an object of a shape has -/
def swords (p r : Int) : Int := if chkOf p r 0 0 = 0 then 1 + p + r else 0
theorem chk00 {p r : Int} (h : chkOf p r 0 0 = 0) : (0 ≤ p ∧ p ≤ 4095) ∧ (0 ≤ r ∧ r ≤ 4095) := by
  unfold chkOf at h
  split at h
  · cases h
  · omega
theorem swords_le (p r : Int) : 0 ≤ swords p r ∧ swords p r ≤ 8191 := by
  unfold swords
  by_cases hc : chkOf p r 0 0 = 0
  · have := chk00 hc
    rw [if_pos hc]; omega
  · rw [if_neg hc]; omega
theorem hwords_ok (σ : AH O) {p r s g : Int} {l : Bool} (hp : 0 ≤ p ∧ p ≤ 4095) (hr : 0 ≤ r ∧ r ≤ 4095) : Ok (header_Words [.agg [.i .i64 p, .i .i64 r, .i .i64 s, .i .i64 g, .b l]] σ) fun q => q.1 = .i .i64 (1 + p + r) ∧ Ext σ q.2 := by
  simp (config := { maxSteps := 2000000 }) -implicitDefEqProofs (disch := (first | omega | rfl | assumption | (simp only [rsD]; first | omega | assumption))) only [header_Words, header_Words_c, Nat.reduceAdd, Nat.reduceMul, Nat.reduceLT, Int.reduceToNat, Int.reduceAdd, Int.reduceSub, Int.reduceMul, rsU, rsC]
  exact Ok_some.2 ⟨rfl, (ext_of (by simp only [put_next, bump_next, kill_next]; omega) (fun b hb => by simp -implicitDefEqProofs (disch := (first | omega | rfl | assumption | (simp only [rsD]; first | omega | assumption))) only [s_bn, s_kn, bump_blk, s_ext]))⟩
theorem slarge_ok (σ : AH O) (p r small : Int) : Ok (shape_Large [.agg [.i .i64 p, .i .i64 r], .i .i64 small] σ) fun q => q.1 = .b (decide (swords p r > small)) ∧ Ext σ q.2 := by
  simp (config := { maxSteps := 2000000 }) -implicitDefEqProofs (disch := (first | omega | rfl | assumption | (simp only [rsD]; first | omega | assumption))) only [shape_Large, shape_Large_c, shape_Words, shape_Words_c, shape_Right, shape_Right_c, Nat.reduceAdd, Nat.reduceMul, Nat.reduceLT, Int.reduceToNat, Int.reduceAdd, Int.reduceSub, Int.reduceMul, rsU, rsC]
  refine Ok.step (check_ok _ p r 0 0 false) fun q ⟨g1, g2⟩ => ?_
  obtain ⟨q, σ1⟩ := q
  simp only at g1 g2
  subst g1
  have hb1 : σ1.blk (σ.next + 1) = some (.cells true 106 [.i .i64 p, .i .i64 r]) := (g2.blk _ (by simp)).trans (by simp -implicitDefEqProofs (disch := omega) only [s_bn, s_bs, s_kn, bump_blk])
  by_cases hc : chkOf p r 0 0 = 0
  · have e1 : (chkOf p r 0 0 == 0) = true := by simp [hc]
    simp (config := { maxSteps := 2000000 }) -implicitDefEqProofs (disch := (first | omega | rfl | assumption | (simp only [rsD]; first | omega | assumption))) only [e1, hb1, Nat.reduceAdd, Nat.reduceMul, Nat.reduceLT, Int.reduceToNat, Int.reduceAdd, Int.reduceSub, Int.reduceMul, rsU, rsC]
    obtain ⟨c1, c2⟩ := chk00 hc
    refine Ok.step (hwords_ok _ (s := 0) (g := 0) (l := false) c1 c2) fun q ⟨k1, k2⟩ => ?_
    obtain ⟨q, σ2⟩ := q
    simp only at k1 k2
    subst k1
    simp (config := { maxSteps := 2000000 }) -implicitDefEqProofs (disch := (first | omega | rfl | assumption | (simp only [rsD]; first | omega | assumption))) only [Nat.reduceAdd, Nat.reduceMul, Nat.reduceLT, Int.reduceToNat, Int.reduceAdd, Int.reduceSub, Int.reduceMul, rsU, rsC]
    exact Ok_some.2 ⟨by simp [swords, hc], (ext_of (by (have x0 := (g2).next); (have x1 := (k2).next); (try simp only [rsD] at *); omega) (fun b hb => by (have x0 := (g2).next); (have x1 := (k2).next); (try simp only [rsD] at *); simp -implicitDefEqProofs (disch := (first | omega | rfl | assumption | (simp only [rsD]; first | omega | assumption))) only [s_bn, s_kn, bump_blk, s_ext (g2), s_ext (k2)]))⟩
  · have e1 : (chkOf p r 0 0 == 0) = false := by simp [hc]
    simp (config := { maxSteps := 2000000 }) -implicitDefEqProofs (disch := (first | omega | rfl | assumption | (simp only [rsD]; first | omega | assumption))) only [e1, hb1, Nat.reduceAdd, Nat.reduceMul, Nat.reduceLT, Int.reduceToNat, Int.reduceAdd, Int.reduceSub, Int.reduceMul, rsU, rsC]
    exact Ok_some.2 ⟨by simp [swords, hc], (ext_of (by (have x0 := (g2).next); (try simp only [rsD] at *); omega) (fun b hb => by (have x0 := (g2).next); (try simp only [rsD] at *); simp -implicitDefEqProofs (disch := (first | omega | rfl | assumption | (simp only [rsD]; first | omega | assumption))) only [s_bn, s_kn, bump_blk, s_ext (g2)]))⟩
/-- new blocks beside it -/
theorem StoAt.beside {σ σ' : AH O} {sb nb lb pb mb : Nat} {M : MemS} {S : PoolS} {w : List Int} {L : LarS} {T : StoS} {X Z : List Nat} {Y : List Int} (h : StoAt σ sb nb lb pb mb M S w L T X Y) (e : Ext σ σ') (hZ : ∀ b ∈ Z, b ∈ X ∨ (σ.next ≤ b ∧ b < σ'.next)) : StoAt σ' sb nb lb pb mb M S w L T Z Y := by
  have h1 := h.ext e
  have hn := h.nlt
  have hs := h.slt
  exact { h1 with l := h.l.turn (K := []) e.chg (by simp) (fun b hb => by
      simp only [List.mem_cons] at hb ⊢
      rcases hb with rfl | rfl | hb
      · exact .inl (.inl rfl)
      · exact .inl (.inr (.inl rfl))
      · rcases hZ b hb with g | g
        · exact .inl (.inr (.inr g))
        · exact .inr g), nd := ⟨h.nd.1, fun hm => by rcases hZ _ hm with g | g; exact h.nd.2.1 g; omega, fun hm => by rcases hZ _ hm with g | g; exact h.nd.2.2 g; omega⟩ }
/-- the header of a new object -/
def newHd (p r s : Nat) (small : Int) : Hd := ⟨p, r, s, 0, decide (((1 + p + r : Nat) : Int) > small)⟩
section
variable {σ : AH O} {sb nb lb pb mb : Nat} {M : MemS} {S : PoolS} {w : List Int} {L : LarS} {T : StoS} {X : List Nat} {Y : List Int} (h : StoAt σ sb nb lb pb mb M S w L T X Y)
include h
theorem smake_bad {p r s : Int} (hc : chkOf p r s 0 ≠ 0) : Ok (store_Store__Make [.p (some (.n sb, 0)), .agg [.i .i64 p, .i .i64 r], .i .i64 s] σ) fun q => q.1 = .tup [.i .u64 0, .i .i64 (chkOf p r s 0)] ∧ Ext σ q.2 := by
  obtain ⟨el, hs⟩ := h.s
  have hlt := h.slt
  simp (config := { maxSteps := 2000000 }) -implicitDefEqProofs (disch := (first | omega | rfl | assumption | (simp only [rsD]; first | omega | assumption))) only [store_Store__Make, store_Store__Make_c, hs, Nat.reduceAdd, Nat.reduceMul, Nat.reduceLT, Int.reduceToNat, Int.reduceAdd, Int.reduceSub, Int.reduceMul, rsU, rsC]
  refine Ok.step (slarge_ok _ p r T.small) fun q ⟨g1, g2⟩ => ?_
  obtain ⟨q, σ1⟩ := q
  simp only at g1 g2
  subst g1
  have g2n := g2.next
  simp only [rsD] at g2n
  have hb1 : σ1.blk σ.next = some (.cells true 106 [.i .i64 p, .i .i64 r]) := (g2.blk _ (by simp; omega)).trans (by simp -implicitDefEqProofs (disch := omega) only [s_bn, s_bs, s_kn, bump_blk])
  simp (config := { maxSteps := 2000000 }) -implicitDefEqProofs (disch := (first | omega | rfl | assumption | (simp only [rsD]; first | omega | assumption))) only [hb1, Nat.reduceAdd, Nat.reduceMul, Nat.reduceLT, Int.reduceToNat, Int.reduceAdd, Int.reduceSub, Int.reduceMul, rsU, rsC]
  refine Ok.step (hpack_no _ hc) fun q ⟨k1, k2⟩ => ?_
  obtain ⟨q, σ2⟩ := q
  simp only at k1 k2
  subst k1
  have hn : (chkOf p r s 0 != 0) = true := by simp [hc]
  simp (config := { maxSteps := 2000000 }) -implicitDefEqProofs (disch := (first | omega | rfl | assumption | (simp only [rsD]; first | omega | assumption))) only [hn, Nat.reduceAdd, Nat.reduceMul, Nat.reduceLT, Int.reduceToNat, Int.reduceAdd, Int.reduceSub, Int.reduceMul, rsU, rsC]
  exact Ok_some.2 ⟨rfl, (ext_of (by (have x0 := (g2).next); (have x1 := (k2).next); (try simp only [rsD] at *); omega) (fun b hb => by (have x0 := (g2).next); (have x1 := (k2).next); (try simp only [rsD] at *); simp -implicitDefEqProofs (disch := (first | omega | rfl | assumption | (simp only [rsD]; first | omega | assumption))) only [s_bn, s_kn, bump_blk, s_ext (g2), s_ext (k2)]))⟩
omit h in
theorem newHd_ok {p r s : Nat} {small : Int} (hp : p < 4096) (hr : r < 4096) (hs : s < 32) : (newHd p r s small).ok := ⟨hp, hr, hs, by show 0 < 8; omega⟩
omit h in
theorem swords_of {p r : Nat} (hp : p < 4096) (hr : r < 4096) : swords p r = ((1 + p + r : Nat) : Int) := by
  have hc : chkOf p r 0 0 = 0 := by unfold chkOf; rw [if_neg (by omega), if_neg (by omega), if_neg (by omega)]
  unfold swords; rw [if_pos hc]; omega
theorem smake_near (hf : M.far 1000) {p r s : Nat} (hp : p < 4096) (hr : r < 4096) (hs : s < 32) (hsm : ((1 + p + r : Nat) : Int) ≤ T.small) (hfit : T.top + (1 + p + r) ≤ T.ws.length) (hlim : T.top < 4194304) :
    Ok (store_Store__Make [.p (some (.n sb, 0)), .agg [.i .i64 (p : Int), .i .i64 (r : Int)], .i .i64 (s : Int)] σ) fun q => q.1 = .tup [.i .u64 (rsm T.top), .i .i64 0] ∧ ∃ M', StoAt q.2 sb nb lb pb mb M' S w L { T with top := T.top + (1 + p + r), ws := T.ws.set T.top ((newHd p r s T.small).word : Int) } X Y ∧ Beh Y M M' 3 0 0 ∧ Keep X σ q.2 := by
  obtain ⟨el, hsb⟩ := h.s
  have hlt := h.slt
  simp (config := { maxSteps := 2000000 }) -implicitDefEqProofs (disch := (first | omega | rfl | assumption | (simp only [rsD]; first | omega | assumption))) only [store_Store__Make, store_Store__Make_c, hsb, Nat.reduceAdd, Nat.reduceMul, Nat.reduceLT, Int.reduceToNat, Int.reduceAdd, Int.reduceSub, Int.reduceMul, rsU, rsC]
  refine Ok.step (slarge_ok _ (p : Int) (r : Int) T.small) fun q ⟨g1, g2⟩ => ?_
  obtain ⟨q, σ1⟩ := q
  simp only at g1 g2
  rw [swords_of hp hr, decide_eq_false (by omega)] at g1
  subst g1
  have g2n := g2.next
  simp only [rsD] at g2n
  have hb1 : σ1.blk σ.next = some (.cells true 106 [.i .i64 (p : Int), .i .i64 (r : Int)]) := (g2.blk _ (by simp; omega)).trans (by simp -implicitDefEqProofs (disch := omega) only [s_bn, s_bs, s_kn, bump_blk])
  simp (config := { maxSteps := 2000000 }) -implicitDefEqProofs (disch := (first | omega | rfl | assumption | (simp only [rsD]; first | omega | assumption))) only [hb1, Nat.reduceAdd, Nat.reduceMul, Nat.reduceLT, Int.reduceToNat, Int.reduceAdd, Int.reduceSub, Int.reduceMul, rsU, rsC]
  have hl : (newHd p r s T.small).l = false := decide_eq_false (by omega)
  have hpk := hpack_ok (σ1.put (σ.next + 1) (.cells true 115 [.i .i64 (p : Int), .i .i64 (r : Int), .i .i64 (s : Int), .i .i64 0, .b false])) (newHd_ok (small := T.small) hp hr hs)
  simp only [Hd.av, hl] at hpk
  refine Ok.step hpk fun q ⟨k1, k2⟩ => ?_
  obtain ⟨q, σ2⟩ := q
  simp only at k1 k2
  subst k1
  have e0 : ((0 : Int) != 0) = false := rfl
  have k2n := k2.next
  simp only [rsD] at k2n
  have hb2 : σ2.blk (σ.next + 1) = some (.cells true 115 [.i .i64 (p : Int), .i .i64 (r : Int), .i .i64 (s : Int), .i .i64 0, .b false]) := (k2.blk _ (by simp; omega)).trans s_bs
  have x2 : Ext σ σ2 := (ext_of (by (have x0 := (g2).next); (have x1 := (k2).next); (try simp only [rsD] at *); omega) (fun b hb => by (have x0 := (g2).next); (have x1 := (k2).next); (try simp only [rsD] at *); simp -implicitDefEqProofs (disch := (first | omega | rfl | assumption | (simp only [rsD]; first | omega | assumption))) only [s_bn, s_kn, bump_blk, s_ext (g2), s_ext (k2)]))
  have hs2 : σ2.blk sb = _ := (x2.blk _ hlt).trans hsb
  simp (config := { maxSteps := 2000000 }) -implicitDefEqProofs (disch := (first | omega | rfl | assumption | (simp only [rsD]; first | omega | assumption))) only [e0, hb2, hs2, Nat.reduceAdd, Nat.reduceMul, Nat.reduceLT, Int.reduceToNat, Int.reduceAdd, Int.reduceSub, Int.reduceMul, rsU, rsC]
  refine Ok.step (hwords_ok _ (s := (s : Int)) (g := 0) (l := false) (by omega) (by omega)) fun q ⟨j1, j2⟩ => ?_
  obtain ⟨q, σ3⟩ := q
  simp only at j1 j2
  subst j1
  have x3 : Ext σ σ3 := x2.trans j2
  have hs3 : σ3.blk sb = _ := (x3.blk _ hlt).trans hsb
  have h3 : StoAt σ3 sb nb lb pb mb M S w L T X Y := h.ext x3
  simp (config := { maxSteps := 2000000 }) -implicitDefEqProofs (disch := (first | omega | rfl | assumption | (simp only [rsD]; first | omega | assumption))) only [hs3, Nat.reduceAdd, Nat.reduceMul, Nat.reduceLT, Int.reduceToNat, Int.reduceAdd, Int.reduceSub, Int.reduceMul, rsU, rsC]
  have tk := stake_ok h3 (n := 1 + p + r) (by omega) hfit
  rw [show ((1 + p + r : Nat) : Int) = 1 + (p : Int) + (r : Int) by omega] at tk
  refine Ok.step tk fun q ⟨t1, t2, t3⟩ => ?_
  obtain ⟨q, σ4⟩ := q
  simp only at t1 t2 t3
  subst t1
  obtain ⟨el4, hs4⟩ := t2.s
  simp (config := { maxSteps := 2000000 }) -implicitDefEqProofs (disch := (first | omega | rfl | assumption | (simp only [rsD]; first | omega | assumption))) only [e0, hs4, Nat.reduceAdd, Nat.reduceMul, Nat.reduceLT, Int.reduceToNat, Int.reduceAdd, Int.reduceSub, Int.reduceMul, rsU, rsC]
  refine Ok.step (swrite_ok t2 (hf.less (by decide)) (at_ := (T.top : Int)) (x := ((newHd p r s T.small).word : Int)) ⟨by omega, by simp only; omega⟩) fun q ⟨u1, M', u2, u3, _, u4⟩ => ?_
  obtain ⟨q, σ5⟩ := q
  simp only at u1 u2 u4
  subst u1
  simp (config := { maxSteps := 2000000 }) -implicitDefEqProofs (disch := (first | omega | rfl | assumption | (simp only [rsD]; first | omega | assumption))) only [tosmall_ok σ5 hlim, Nat.reduceAdd, Nat.reduceMul, Nat.reduceLT, Int.reduceToNat, Int.reduceAdd, Int.reduceSub, Int.reduceMul, rsU, rsC]
  rw [Int.toNat_natCast] at u2
  exact Ok_some.2 ⟨rfl, M', u2, u3.as (by decide) rfl rfl, ((h.l.p.mi.keepExt x3).mono fun b hb => by simp [hb]).trans (t3.trans u4)⟩
theorem smake_full {p r s : Nat} (hp : p < 4096) (hr : r < 4096) (hs : s < 32) (hsm : ((1 + p + r : Nat) : Int) ≤ T.small) (hfit : T.ws.length < T.top + (1 + p + r)) :
    Ok (store_Store__Make [.p (some (.n sb, 0)), .agg [.i .i64 (p : Int), .i .i64 (r : Int)], .i .i64 (s : Int)] σ) fun q => q.1 = .tup [.i .u64 0, .i .i64 3] ∧ Ext σ q.2 := by
  obtain ⟨el, hsb⟩ := h.s
  have hlt := h.slt
  simp (config := { maxSteps := 2000000 }) -implicitDefEqProofs (disch := (first | omega | rfl | assumption | (simp only [rsD]; first | omega | assumption))) only [store_Store__Make, store_Store__Make_c, hsb, Nat.reduceAdd, Nat.reduceMul, Nat.reduceLT, Int.reduceToNat, Int.reduceAdd, Int.reduceSub, Int.reduceMul, rsU, rsC]
  refine Ok.step (slarge_ok _ (p : Int) (r : Int) T.small) fun q ⟨g1, g2⟩ => ?_
  obtain ⟨q, σ1⟩ := q
  simp only at g1 g2
  rw [swords_of hp hr, decide_eq_false (by omega)] at g1
  subst g1
  have g2n := g2.next
  simp only [rsD] at g2n
  have hb1 : σ1.blk σ.next = some (.cells true 106 [.i .i64 (p : Int), .i .i64 (r : Int)]) := (g2.blk _ (by simp; omega)).trans (by simp -implicitDefEqProofs (disch := omega) only [s_bn, s_bs, s_kn, bump_blk])
  simp (config := { maxSteps := 2000000 }) -implicitDefEqProofs (disch := (first | omega | rfl | assumption | (simp only [rsD]; first | omega | assumption))) only [hb1, Nat.reduceAdd, Nat.reduceMul, Nat.reduceLT, Int.reduceToNat, Int.reduceAdd, Int.reduceSub, Int.reduceMul, rsU, rsC]
  have hl : (newHd p r s T.small).l = false := decide_eq_false (by omega)
  have hpk := hpack_ok (σ1.put (σ.next + 1) (.cells true 115 [.i .i64 (p : Int), .i .i64 (r : Int), .i .i64 (s : Int), .i .i64 0, .b false])) (newHd_ok (small := T.small) hp hr hs)
  simp only [Hd.av, hl] at hpk
  refine Ok.step hpk fun q ⟨k1, k2⟩ => ?_
  obtain ⟨q, σ2⟩ := q
  simp only at k1 k2
  subst k1
  have e0 : ((0 : Int) != 0) = false := rfl
  have e3 : ((3 : Int) != 0) = true := rfl
  have k2n := k2.next
  simp only [rsD] at k2n
  have hb2 : σ2.blk (σ.next + 1) = some (.cells true 115 [.i .i64 (p : Int), .i .i64 (r : Int), .i .i64 (s : Int), .i .i64 0, .b false]) := (k2.blk _ (by simp; omega)).trans s_bs
  have x2 : Ext σ σ2 := (ext_of (by (have x0 := (g2).next); (have x1 := (k2).next); (try simp only [rsD] at *); omega) (fun b hb => by (have x0 := (g2).next); (have x1 := (k2).next); (try simp only [rsD] at *); simp -implicitDefEqProofs (disch := (first | omega | rfl | assumption | (simp only [rsD]; first | omega | assumption))) only [s_bn, s_kn, bump_blk, s_ext (g2), s_ext (k2)]))
  have hs2 : σ2.blk sb = _ := (x2.blk _ hlt).trans hsb
  simp (config := { maxSteps := 2000000 }) -implicitDefEqProofs (disch := (first | omega | rfl | assumption | (simp only [rsD]; first | omega | assumption))) only [e0, hb2, hs2, Nat.reduceAdd, Nat.reduceMul, Nat.reduceLT, Int.reduceToNat, Int.reduceAdd, Int.reduceSub, Int.reduceMul, rsU, rsC]
  refine Ok.step (hwords_ok _ (s := (s : Int)) (g := 0) (l := false) (by omega) (by omega)) fun q ⟨j1, j2⟩ => ?_
  obtain ⟨q, σ3⟩ := q
  simp only at j1 j2
  subst j1
  have x3 : Ext σ σ3 := x2.trans j2
  have hs3 : σ3.blk sb = _ := (x3.blk _ hlt).trans hsb
  have h3 : StoAt σ3 sb nb lb pb mb M S w L T X Y := h.ext x3
  have tk := stake_no h3 (n := ((1 + p + r : Nat) : Int)) (by omega) (by omega)
  rw [show ((1 + p + r : Nat) : Int) = 1 + (p : Int) + (r : Int) by omega] at tk
  simp (config := { maxSteps := 2000000 }) -implicitDefEqProofs (disch := (first | omega | rfl | assumption | (simp only [rsD]; first | omega | assumption))) only [hs3, tk, e3, Nat.reduceAdd, Nat.reduceMul, Nat.reduceLT, Int.reduceToNat, Int.reduceAdd, Int.reduceSub, Int.reduceMul, rsU, rsC]
  exact Ok_some.2 ⟨rfl, x3⟩
theorem smake_far (hf : M.far 2000) {p r s : Nat} (hp : p < 4096) (hr : r < 4096) (hs : s < 32) (hsm : T.small < ((1 + p + r : Nat) : Int)) (hcnt : M.count < 262144) (hR : S.more * 6 ≤ 4194304) :
    Ok (store_Store__Make [.p (some (.n sb, 0)), .agg [.i .i64 (p : Int), .i .i64 (r : Int)], .i .i64 (s : Int)] σ) fun q => q.1 = .tup [.i .u64 (rlg S.took.1), .i .i64 0] ∧ L.ob S.took.1 = none ∧ ∃ M' S' w' L', StoAt q.2 sb nb lb pb mb M' S' w' L' T X Y ∧ (L'.ob = fun j => if j = S.took.1 then some ((List.replicate (1 + p + r) 0).set 0 ((newHd p r s T.small).word : Int)) else L.ob j) ∧ Alike S.took.2 S' ∧ Beh Y M M' 27 (((1 + p + r : Nat) : Int) + 6 * ((S.took.2.room : Int) - S.room)) 1 ∧ Keep X σ q.2 := by
  obtain ⟨el, hsb⟩ := h.s
  have hlt := h.slt
  simp (config := { maxSteps := 2000000 }) -implicitDefEqProofs (disch := (first | omega | rfl | assumption | (simp only [rsD]; first | omega | assumption))) only [store_Store__Make, store_Store__Make_c, hsb, Nat.reduceAdd, Nat.reduceMul, Nat.reduceLT, Int.reduceToNat, Int.reduceAdd, Int.reduceSub, Int.reduceMul, rsU, rsC]
  refine Ok.step (slarge_ok _ (p : Int) (r : Int) T.small) fun q ⟨g1, g2⟩ => ?_
  obtain ⟨q, σ1⟩ := q
  simp only at g1 g2
  rw [swords_of hp hr, decide_eq_true (by omega)] at g1
  subst g1
  have g2n := g2.next
  simp only [rsD] at g2n
  have hb1 : σ1.blk σ.next = some (.cells true 106 [.i .i64 (p : Int), .i .i64 (r : Int)]) := (g2.blk _ (by simp; omega)).trans (by simp -implicitDefEqProofs (disch := omega) only [s_bn, s_bs, s_kn, bump_blk])
  simp (config := { maxSteps := 2000000 }) -implicitDefEqProofs (disch := (first | omega | rfl | assumption | (simp only [rsD]; first | omega | assumption))) only [hb1, Nat.reduceAdd, Nat.reduceMul, Nat.reduceLT, Int.reduceToNat, Int.reduceAdd, Int.reduceSub, Int.reduceMul, rsU, rsC]
  have hl : (newHd p r s T.small).l = true := decide_eq_true (by omega)
  have hpk := hpack_ok (σ1.put (σ.next + 1) (.cells true 115 [.i .i64 (p : Int), .i .i64 (r : Int), .i .i64 (s : Int), .i .i64 0, .b true])) (newHd_ok (small := T.small) hp hr hs)
  simp only [Hd.av, hl] at hpk
  refine Ok.step hpk fun q ⟨k1, k2⟩ => ?_
  obtain ⟨q, σ2⟩ := q
  simp only at k1 k2
  subst k1
  have e0 : ((0 : Int) != 0) = false := rfl
  have k2n := k2.next
  simp only [rsD] at k2n
  have hb2 : σ2.blk (σ.next + 1) = some (.cells true 115 [.i .i64 (p : Int), .i .i64 (r : Int), .i .i64 (s : Int), .i .i64 0, .b true]) := (k2.blk _ (by simp; omega)).trans s_bs
  have x2 : Ext σ σ2 := (ext_of (by (have x0 := (g2).next); (have x1 := (k2).next); (try simp only [rsD] at *); omega) (fun b hb => by (have x0 := (g2).next); (have x1 := (k2).next); (try simp only [rsD] at *); simp -implicitDefEqProofs (disch := (first | omega | rfl | assumption | (simp only [rsD]; first | omega | assumption))) only [s_bn, s_kn, bump_blk, s_ext (g2), s_ext (k2)]))
  have hs2 : σ2.blk sb = _ := (x2.blk _ hlt).trans hsb
  simp (config := { maxSteps := 2000000 }) -implicitDefEqProofs (disch := (first | omega | rfl | assumption | (simp only [rsD]; first | omega | assumption))) only [e0, hb2, hs2, Nat.reduceAdd, Nat.reduceMul, Nat.reduceLT, Int.reduceToNat, Int.reduceAdd, Int.reduceSub, Int.reduceMul, rsU, rsC]
  refine Ok.step (hwords_ok _ (s := (s : Int)) (g := 0) (l := true) (by omega) (by omega)) fun q ⟨j1, j2⟩ => ?_
  obtain ⟨q, σ3⟩ := q
  simp only at j1 j2
  subst j1
  have x3 : Ext σ σ3 := x2.trans j2
  have hs3 : σ3.blk sb = _ := (x3.blk _ hlt).trans hsb
  have h3 : StoAt σ3 sb nb lb pb mb M S w L T X Y := h.ext x3
  simp (config := { maxSteps := 2000000 }) -implicitDefEqProofs (disch := (first | omega | rfl | assumption | (simp only [rsD]; first | omega | assumption))) only [hs3, Nat.reduceAdd, Nat.reduceMul, Nat.reduceLT, Int.reduceToNat, Int.reduceAdd, Int.reduceSub, Int.reduceMul, rsU, rsC]
  have tk := ladd_ok h3.l (hf.less (by decide)) (n := ((1 + p + r : Nat) : Int)) (by omega) (by omega) hcnt hR
  rw [Int.toNat_natCast] at tk
  rw [show (AV.i .i64 ((1 + p + r : Nat) : Int)) = .i .i64 (1 + (p : Int) + (r : Int)) by congr 1 <;> omega] at tk
  refine Ok.step tk fun q ⟨t1, t0, M4, S4, w4, t2, t3, t4, t5⟩ => ?_
  obtain ⟨q, σ4⟩ := q
  simp only at t1 t2 t5
  subst t1
  have h4 := h3.larged t2 t4 t5
  obtain ⟨el4, hs4⟩ := h4.s
  simp (config := { maxSteps := 2000000 }) -implicitDefEqProofs (disch := (first | omega | rfl | assumption | (simp only [rsD]; first | omega | assumption))) only [e0, hs4, Nat.reduceAdd, Nat.reduceMul, Nat.reduceLT, Int.reduceToNat, Int.reduceAdd, Int.reduceSub, Int.reduceMul, rsU, rsC]
  have ho : ({ L with H := L.H ++ [S.took.1], words := L.words + ((1 + p + r : Nat) : Int), ob := fun j => if j = S.took.1 then some (List.replicate (1 + p + r) 0) else L.ob j } : LarS).ob S.took.1 = some (List.replicate (1 + p + r) 0) := if_pos rfl
  have hb5 := h4.oblt ho
  refine Ok.step (lwrite_ok h4.l (t4.far (hf.less (by decide))) ho (at_ := 0) (x := ((newHd p r s T.small).word : Int)) ⟨by decide, by first | omega | (simp; done) | (simp; omega)⟩) fun q ⟨u1, M5, u2, u3, u4⟩ => ?_
  obtain ⟨q, σ5⟩ := q
  simp only at u1 u2 u4
  subst u1
  simp (config := { maxSteps := 2000000 }) -implicitDefEqProofs (disch := (first | omega | rfl | assumption | (simp only [rsD]; first | omega | assumption))) only [tolarge_ok σ5 hb5, Nat.reduceAdd, Nat.reduceMul, Nat.reduceLT, Int.reduceToNat, Int.reduceAdd, Int.reduceSub, Int.reduceMul, rsU, rsC]
  refine Ok_some.2 ⟨rfl, t0, M5, S4, w4, _, h4.larged u2 u3 u4, ?_, t3, ?_, ?_⟩
  · funext j
    simp only
    by_cases hj : j = S.took.1
    · rw [if_pos hj, if_pos hj]; rfl
    · rw [if_neg hj, if_neg hj, if_neg hj]
  · exact ((t4.trans u3).as (by decide) (by omega) (by omega)).mono fun y hy => by simp [hy]
  · exact ((h.l.p.mi.keepExt x3).mono fun b hb => by simp [hb]).trans ((t5.trans u4).tail.tail)
end
end Go.Abs.Try
set_option linter.unusedSimpArgs false
set_option linter.unusedVariables false
set_option linter.unusedSectionVars false
set_option maxHeartbeats 2000000
namespace Go.Abs.Try
open Go Go.Abs
variable {O : Type}

theorem snew_ok {σ : AH O} {X : List Nat} (hX : ∀ b ∈ X, b < σ.next) {small words : Int} (h1 : 2 ≤ small ∧ small ≤ 64) (h2 : 0 ≤ words ∧ words ≤ 4194304) :
    Ok (store_New [.i .i64 small, .i .i64 words] σ) fun r => ∃ sb nb lb pb mb M S, r.1 = .tup [.p (some (.n sb, 0)), .i .i64 0] ∧ StoAt r.2 sb nb lb pb mb M S [] ⟨[], [], 0, 0, 0, fun _ => none⟩ ⟨0, List.replicate words.toNat 0, 0, [.i .i64 0, .i .i64 0, .b false], small⟩ X [] ∧ S = ⟨1, 5, 0, [], [], 0⟩ ∧ M.count = 2 ∧ M.met.r = 0 ∧ M.met.w = 0 ∧ M.met.held = words ∧ Keep X σ r.2 := by
  have e0 : ((0 : Int) != 0) = false := rfl
  simp (config := { maxSteps := 2000000 }) -implicitDefEqProofs (disch := (first | omega | rfl | assumption | (simp only [rsD]; first | omega | assumption))) only [store_New, store_New_c, gt_iff_lt, Nat.reduceAdd, Nat.reduceMul, Nat.reduceLT, Int.reduceToNat, Int.reduceAdd, Int.reduceSub, Int.reduceMul, rsU, rsC]
  refine Ok.step (newX hX) fun r ⟨g1, g2, g3⟩ => ?_
  obtain ⟨q, σ1⟩ := r
  simp only at g1 g2 g3
  subst g1
  simp (config := { maxSteps := 2000000 }) -implicitDefEqProofs (disch := (first | omega | rfl | assumption | (simp only [rsD]; first | omega | assumption))) only [semi_New, semi_New_c, Nat.reduceAdd, Nat.reduceMul, Nat.reduceLT, Int.reduceToNat, Int.reduceAdd, Int.reduceSub, Int.reduceMul, rsU, rsC]
  have hff : ff MemS.new.sp = 0 := rfl
  refine Ok.step (openX g2 ⟨by decide, by decide⟩ h2.1 h2.2 (by decide)) fun r ⟨k1, k2, k3⟩ => ?_
  obtain ⟨q, σ2⟩ := r
  simp only at k1 k2 k3
  rw [hff] at k1 k2
  subst k1
  simp (config := { maxSteps := 2000000 }) -implicitDefEqProofs (disch := (first | omega | rfl | assumption | (simp only [rsD]; first | omega | assumption))) only [e0, Nat.reduceAdd, Nat.reduceMul, Nat.reduceLT, Int.reduceToNat, Int.reduceAdd, Int.reduceSub, Int.reduceMul, rsU, rsC]
  have kX : ∀ b ∈ X, b < σ2.next := fun b hb => k2.lt b hb
  have kn := k3.next
  have k4 : MemIn ((σ2.bump 1).put σ2.next (.cells true 230 [.p (some (.n σ.next, 0)), .i .i64 0, .i .i64 0, .i .i64 0, .i .i64 0, .b false])) σ.next (MemS.new.opn 0 words) (σ2.next :: X) :=
    k2.turn (L := [σ2.next]) ⟨by simp, fun b hb hm => by simp -implicitDefEqProofs (disch := omega) only [s_bn, s_bs, s_kn, bump_blk]⟩ (fun b hb => .inr (by simp at hb; omega)) (fun b hb => by
      rcases List.mem_cons.1 hb with rfl | hb
      · exact .inr ⟨Nat.le_refl _, by simp⟩
      · exact .inl hb)
  have hw0 : wordsOf (MemS.new.opn 0 words).sp 0 = some (List.replicate words.toNat 0) := opn_words (M := MemS.new) (n := words)
  refine Ok.step (lnew_ok (Y := [0]) k4 ⟨show (0 : Int) < _ by decide, show (0 : Int) < _ by decide⟩ (show (1 : Int) < 262144 by decide) (fun y hy => by simp at hy; subst hy; rw [hw0]; simp)) fun r ⟨lb, pb, M', S, j1, j2, j3, j4, j5, j6⟩ => ?_
  obtain ⟨q, σ3⟩ := r
  simp only at j1 j2 j6
  subst j1
  simp (config := { maxSteps := 2000000 }) -implicitDefEqProofs (disch := (first | omega | rfl | assumption | (simp only [rsD]; first | omega | assumption))) only [e0, Nat.reduceAdd, Nat.reduceMul, Nat.reduceLT, Int.reduceToNat, Int.reduceAdd, Int.reduceSub, Int.reduceMul, rsU, rsC]
  have hff1 : ff (MemS.new.opn 0 words).sp = 1 := rfl
  rw [hff1] at j3 j4
  have j6n := j6.next
  simp only [rsD] at j6n
  have hlX := j2.lX
  have hn3 : σ3.blk σ2.next = some (.cells true 230 [.p (some (.n σ.next, 0)), .i .i64 0, .i .i64 0, .i .i64 0, .i .i64 0, .b false]) := (j6.blk _ (by simp)).trans s_bs
  refine Ok_some.2 ⟨σ3.next, σ2.next, lb, pb, σ.next, M', S, rfl, ⟨?_, ⟨230, ?_⟩, ⟨_, s_bs⟩, ?_, by simp, ⟨by omega, fun hm => by have := kX _ hm; omega, fun hm => by have := hlX σ3.next (by simp [hm]); omega⟩, by simp⟩, j3, ?_, ?_, ?_, ?_, ?_⟩
  · refine j2.turn (K := [σ3.next]) ⟨by simp, fun b hb hm => by simp -implicitDefEqProofs (disch := omega) only [s_bn, s_bs, s_kn, bump_blk]⟩ (fun b hb => .inr (by simp at hb; omega)) (fun b hb => ?_)
    simp only [List.mem_cons] at hb ⊢
    rcases hb with rfl | rfl | hb
    · exact .inl (.inl rfl)
    · exact .inr ⟨Nat.le_refl _, by simp⟩
    · exact .inl (.inr hb)
  · simp -implicitDefEqProofs (disch := omega) only [s_bn, s_bs, s_kn, bump_blk]
    exact hn3
  · exact (j5.keep 0 (by simp)).trans hw0
  · rw [j4]; rfl
  · rw [j4]; rfl
  · rw [j4]; rfl
  · rw [j4]; simp [MemS.opn, MemS.new, Met.hold, Met.zero]
  · exact (⟨g3.next, fun b hb => g3.blk b (hX b hb)⟩ : Keep X σ σ1).trans (k3.trans ((⟨by simp, fun b hb => by have := kX b hb; simp -implicitDefEqProofs (disch := omega) only [s_bn, s_bs, s_kn, bump_blk]⟩ : Keep X σ2 _).trans (j6.tail.trans ⟨by simp, fun b hb => by have := hlX b (by simp [hb]); simp -implicitDefEqProofs (disch := omega) only [s_bn, s_bs, s_kn, bump_blk]⟩)))
end Go.Abs.Try
