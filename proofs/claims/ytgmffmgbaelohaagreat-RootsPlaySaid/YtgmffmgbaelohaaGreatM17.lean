/-
  Layer 17: a stack of frames. No conditions.
-/
import Derived.Test.YtgmffmgbaelohaaGreatM7
import Derived.Test.YtgmffmgbaelohaaGreatM10
set_option linter.unusedVariables false
set_option linter.unusedSimpArgs false
set_option linter.constructorNameAsVariable false
set_option linter.unusedSimpArgs false
set_option linter.unusedVariables false
set_option linter.unusedSectionVars false
set_option maxHeartbeats 4000000
namespace Go.Abs.Tryz
open Go Go.Abs
variable {O : Type}
def wds : List (List Int) -> Nat
 | [] => 0
 | f :: r => wds r + (2 + f.length)
def lnk : List (List Int) -> Int
 | [] => 0
 | _ :: r => (wds r : Int) + 1
def fbase : List (List Int) -> Int
 | [] => 0
 | _ :: r => wds r
def fslots : List (List Int) -> Int
 | [] => 0
 | f :: _ => f.length
def lay : List (List Int) -> List Int
 | [] => []
 | f :: r => lay r ++ ([lnk r, (f.length : Int)] ++ f)
theorem lay_len : ∀ L, (lay L).length = wds L
 | [] => rfl
 | f :: r => by simp only [lay, wds, List.length_append, lay_len r, List.length_cons, List.length_nil]
theorem lay_tail {w : List Int} : ∀ (pre : List (List Int)) {s : List (List Int)}, w.take (wds (pre ++ s)) = lay (pre ++ s) -> w.take (wds s) = lay s
 | [], s, h => h
 | f :: pre, s, h => by
  refine lay_tail pre ?_
  have h1 : (w.take (wds (f :: pre ++ s))).take (wds (pre ++ s)) = lay (pre ++ s) := by
   rw [h]
   show (lay (pre ++ s) ++ _).take _ = _
   rw [<- lay_len (pre ++ s), List.take_left]
  rw [List.take_take] at h1
  have : min (wds (pre ++ s)) (wds (f :: pre ++ s)) = wds (pre ++ s) := by
   show min (wds (pre ++ s)) (wds (pre ++ s) + _) = _
   omega
  rwa [this] at h1
theorem lay_at {w f : List Int} {r : List (List Int)} (h : w.take (wds (f :: r)) = lay (f :: r)) : w[wds r]? = some (lnk r) /\ w[wds r + 1]? = some (f.length : Int) /\ ∀ (k : Nat) (x : Int), f[k]? = some x -> w[wds r + 2 + k]? = some x := by
 have key : ∀ i, i < wds (f :: r) -> w[i]? = (lay (f :: r))[i]? := fun i hi => by rw [<- h, List.getElem?_take, if_pos hi]
 have hl := lay_len r
 refine ⟨?_, ?_, fun k x hk => ?_⟩
 ·rw [key _ (by simp only [wds]; omega)]
  simp only [lay]
  rw [List.getElem?_append_right (by omega), hl, Nat.sub_self]; rfl
 ·rw [key _ (by simp only [wds]; omega)]
  simp only [lay]
  rw [List.getElem?_append_right (by omega), hl, Nat.add_sub_cancel_left]; rfl
 ·have hlt := (List.getElem?_eq_some_iff.1 hk).1
  rw [key _ (by simp only [wds]; omega)]
  simp only [lay]
  rw [List.getElem?_append_right (by omega), hl, show wds r + 2 + k - wds r = k + 2 by omega]
  simpa using hk
theorem lay_push {w P z : List Int} {a : Nat} {x y : Int} (hp : w.take a = P) (hl : P.length = a) (hw : a + (2 + z.length) <= w.length) : (patched ((w.set a x).set (a + 1) y) (a + 2) z).take (a + (2 + z.length)) = P ++ ([x, y] ++ z) := by
 have e : w = P ++ w.drop a := by rw [<- hp, List.take_append_drop]
 have hq : (w.drop a).length = w.length - a := by simp
 generalize w.drop a = q at e hq
 subst e
 match q, hq with
 | u :: v :: rest, hq =>
  have e1 : (P ++ u :: v :: rest).set a x = P ++ x :: v :: rest := by rw [List.set_append_right _ _ (by omega), hl, Nat.sub_self]; rfl
  have e2 : (P ++ x :: v :: rest).set (a + 1) y = P ++ x :: y :: rest := by rw [List.set_append_right _ _ (by omega), hl, Nat.add_sub_cancel_left]; rfl
  rw [e1, e2]
  have e3 : P ++ x :: y :: rest = (P ++ [x, y]) ++ rest := by simp
  have e4 : (P ++ [x, y]).length = a + 2 := by simp [hl]
  unfold patched
  rw [e3, List.take_left' e4]
  have e5 : P ++ [x, y] ++ z ++ ((P ++ [x, y]) ++ rest).drop (a + 2 + z.length) = (P ++ ([x, y] ++ z)) ++ ((P ++ [x, y]) ++ rest).drop (a + 2 + z.length) := by simp
  rw [e5, List.take_left']
  simp [hl]; omega
 | [], hq => simp at hw hq; omega
 | [u], hq => simp at hw hq; omega
theorem lay_set {w f : List Int} {r : List (List Int)} {k : Nat} {x : Int} (h : w.take (wds (f :: r)) = lay (f :: r)) : (w.set (wds r + 2 + k) x).take (wds (f.set k x :: r)) = lay (f.set k x :: r) := by
 have e : wds (f.set k x :: r) = wds (f :: r) := by simp [wds]
 rw [e, List.take_set, h]
 simp only [lay]
 rw [List.set_append_right _ _ (by rw [lay_len]; omega), lay_len, show wds r + 2 + k - wds r = k + 1 + 1 by omega, List.length_set]
 rfl
theorem lnk_le : ∀ r, lnk r <= wds r + 1
 | [] => by decide
 | f :: r => by simp only [lnk, wds]; omega
theorem lnk_nn : ∀ r, 0 <= lnk r
 | [] => by decide
 | f :: r => by simp only [lnk]; omega
def Rm (room need room' : Nat) : Prop := ∃ j : Nat, room' = max room 32 * 2 ^ j /\ need <= room' /\ ∀ i, i < j -> max room 32 * 2 ^ i < need
structure FrmS where
 id : Int
 room : Nat
 L : List (List Int)
def FrmS.cells (S : FrmS) (mb : Nat) : List AV := [.p (some (.n mb, 0)), .i .i64 S.id, .i .i64 (S.room : Int), .i .i64 (wds S.L : Int), .i .i64 (S.L.length : Int), .i .i64 (fbase S.L), .i .i64 (fslots S.L)]
structure FrmAt (J : AH O) (fb mb : Nat) (M : MemS) (S : FrmS) (w : List Int) (X : List Nat) : Prop where
 mi : MemIn J mb M (fb :: X)
 b : J.blk fb = some (.cells true T_frames_Frames (S.cells mb))
 nx : fb ∉ X
 now : wordsOf M.sp S.id = some w
 room : w.length = S.room
 pow : S.room = 0 ∨ ∃ k : Nat, S.room = 32 * 2 ^ k /\ k <= 17
 pre : w.take (wds S.L) = lay S.L
 len : ∀ f ∈ S.L, f.length <= 256
section
variable {J : AH O} {fb mb : Nat} {M : MemS} {S : FrmS} {w : List Int} {X : List Nat} (h : FrmAt J fb mb M S w X)
include h
theorem FrmAt.ext {J' : AH O} (he : Ext J J') : FrmAt J' fb mb M S w X := { h with mi := h.mi.ext he, b := (he.blk _ (h.mi.lt _ List.mem_cons_self)).trans h.b }
theorem FrmAt.new {J' : AH O} (he : Ext J J') {b : Nat} (h1 : J.next <= b) (h2 : b < J'.next) : FrmAt J' fb mb M S w (b :: X) :=
 { h.ext he with mi := (h.mi.new he h1 h2).mono (fun c hc => by simp only [List.mem_cons] at hc ⊢; rcases hc with rfl | rfl | hc <;> simp_all), nx := (fun hm => (List.mem_cons.1 hm).elim (fun e => by have := h.mi.lt _ List.mem_cons_self; omega) h.nx) }
theorem FrmAt.mono {Y : List Nat} (hs : ∀ b ∈ Y, b ∈ X) : FrmAt J fb mb M S w Y := { h with mi := h.mi.mono (fun c hc => (List.mem_cons.1 hc).elim (fun e => by rw [e]; exact List.mem_cons_self) fun hc => List.mem_cons_of_mem _ (hs c hc)), nx := fun hm => h.nx (hs _ hm) }
theorem FrmAt.lt : fb < J.next := h.mi.lt _ List.mem_cons_self
theorem FrmAt.le : wds S.L <= w.length := by
 have := congrArg List.length h.pre
 rw [lay_len, List.length_take] at this; omega
theorem FrmAt.wle : w.length <= 4194304 := h.mi.wlen h.now
theorem fwords_ok : frames_Frames__Words [.p (some (.n fb, 0))] J = some (.i .i64 (wds S.L : Int), J) := by
 have hb := h.b
 simp only [FrmS.cells] at hb
 simp (maxSteps := 2000000) -implicitDefEqProofs (disch := (first | omega | rfl | assumption | (simp only [rsD]; first | omega | assumption))) only [frames_Frames__Words, frames_Frames__Words_c, hb, Nat.reduceAdd, Nat.reduceMul, Nat.reduceLT, Int.reduceToNat, Int.reduceAdd, Int.reduceSub, Int.reduceMul, rsU, rsC]
theorem fdepth_ok : frames_Frames__Depth [.p (some (.n fb, 0))] J = some (.i .i64 (S.L.length : Int), J) := by
 have hb := h.b
 simp only [FrmS.cells] at hb
 simp (maxSteps := 2000000) -implicitDefEqProofs (disch := (first | omega | rfl | assumption | (simp only [rsD]; first | omega | assumption))) only [frames_Frames__Depth, frames_Frames__Depth_c, hb, Nat.reduceAdd, Nat.reduceMul, Nat.reduceLT, Int.reduceToNat, Int.reduceAdd, Int.reduceSub, Int.reduceMul, rsU, rsC]
end
theorem fgrow_loop {J : AH O} {m n : Nat} (hm : 32 <= m /\ m <= 4194304) (hn : n <= 4194304) : Ok (loopF (S := List AV × AH O) (T := List AV × AH O) (frames_Frames__grow_L1 (n : Int)) ([.i .i64 (m : Int)], J)) fun r => ∃ j : Nat, r = ([.i .i64 ((m * 2 ^ j : Nat) : Int)], J) /\ n <= m * 2 ^ j /\ ∀ i, i < j -> m * 2 ^ i < n := by
 refine Ok.loop (fun k s => ∃ j : Nat, s = ([.i .i64 ((m * 2 ^ j : Nat) : Int)], J) /\ k = n - m * 2 ^ j /\ ∀ i, i < j -> m * 2 ^ i < n) ?_ _ _ ⟨0, by simp, rfl, fun i hi => by omega⟩
 rintro k s ⟨j, rfl, rfl, hj⟩
 have hpos : 32 <= m * 2 ^ j := Nat.le_trans hm.1 (Nat.le_mul_of_pos_right _ (Nat.two_pow_pos j))
 have hs : m * 2 ^ (j + 1) = m * 2 ^ j * 2 := by rw [Nat.pow_succ, Nat.mul_assoc]
 by_cases c : m * 2 ^ j < n
 ·have hj' : ∀ i, i < j + 1 -> m * 2 ^ i < n := fun i hi => by
   by_cases e : i = j
   ·rw [e]; exact c
   ·exact hj i (by omega)
  generalize hv : m * 2 ^ j = v at *
  simp (maxSteps := 2000000) -implicitDefEqProofs (disch := (first | omega | rfl | assumption | (simp only [rsD]; first | omega | assumption))) only [frames_Frames__grow_L1, Nat.reduceAdd, Nat.reduceMul, Nat.reduceLT, Int.reduceToNat, Int.reduceAdd, Int.reduceSub, Int.reduceMul, rsU, rsC]
  exact Ok_some.2 ⟨n - m * 2 ^ (j + 1), by omega, j + 1, by rw [hs]; simp, rfl, hj'⟩
 ·have hc : n <= m * 2 ^ j := by omega
  generalize hv : m * 2 ^ j = v at *
  simp (maxSteps := 2000000) -implicitDefEqProofs (disch := (first | omega | rfl | assumption | (simp only [rsD]; first | omega | assumption))) only [frames_Frames__grow_L1, Nat.reduceAdd, Nat.reduceMul, Nat.reduceLT, Int.reduceToNat, Int.reduceAdd, Int.reduceSub, Int.reduceMul, rsU, rsC]
  exact Ok_some.2 ⟨j, by rw [hv], by omega, hj⟩
section
variable {J : AH O} {fb mb : Nat} {M : MemS} {S : FrmS} {w : List Int} {X : List Nat} (h : FrmAt J fb mb M S w X) (hc : M.calm)
include h hc
theorem fgrow_ok {n : Nat} (hn : n <= 4194304) : Ok (frames_Frames__grow [.p (some (.n fb, 0)), .i .i64 (n : Int)] J) fun r => r.1 = .i .i64 0 /\ ∃ M' room' w', FrmAt r.2 fb mb M' { S with room := room' } w' X /\ Rm S.room n room' /\ Wrt M M' S.id w' 0 0 /\ Keep X J r.2 := by
 have hb := h.b
 simp only [FrmS.cells] at hb
 have hlt := h.lt
 have hwl := h.wle
 have hroom := h.room
 have hm : (if (32 : Int) > (S.room : Int) then (32 : Int) else (S.room : Int)) = ((max S.room 32 : Nat) : Int) := by split <;> omega
 simp (maxSteps := 2000000) -implicitDefEqProofs (disch := (first | omega | rfl | assumption | (simp only [rsD]; first | omega | assumption))) only [frames_Frames__grow, frames_Frames__grow_c, hb, hm, Nat.reduceAdd, Nat.reduceMul, Nat.reduceLT, Int.reduceToNat, Int.reduceAdd, Int.reduceSub, Int.reduceMul, rsU, rsC]
 refine Ok.step (fgrow_loop (m := max S.room 32) (by omega) hn) ?_
 rintro _ ⟨j, rfl, g2, g3⟩
 have hR : Rm S.room n (max S.room 32 * 2 ^ j) := ⟨j, rfl, g2, g3⟩
 have hle : max S.room 32 * 2 ^ j <= 4194304 /\ max S.room 32 <= max S.room 32 * 2 ^ j /\ ∃ k : Nat, max S.room 32 * 2 ^ j = 32 * 2 ^ k /\ k <= 17 := by
  obtain ⟨k, hk, hk'⟩ : ∃ k : Nat, max S.room 32 = 32 * 2 ^ k /\ k <= 17 := by
   rcases h.pow with e | ⟨k, e, hk⟩
   ·exact ⟨0, by omega, by omega⟩
   ·refine ⟨k, ?_, hk⟩
    have := Nat.two_pow_pos k
    omega
  have hkj : k + j <= 17 := by
   cases j with
   | zero => omega
   | succ i =>
    have h1 := g3 i (by omega)
    rw [hk, Nat.mul_assoc, <- Nat.pow_add] at h1
    have h2 : 2 ^ (k + i) < 2 ^ 17 := by omega
    have := (Nat.pow_lt_pow_iff_right (by omega : 1 < 2)).1 h2
    omega
  have e : max S.room 32 * 2 ^ j = 32 * 2 ^ (k + j) := by rw [hk, Nat.mul_assoc, <- Nat.pow_add]
  refine ⟨?_, Nat.le_mul_of_pos_right _ (Nat.two_pow_pos j), k + j, e, hkj⟩
  rw [e]
  have := Nat.pow_le_pow_right (show 0 < 2 by omega) hkj
  omega
 generalize max S.room 32 * 2 ^ j = R at *
 by_cases e : R = S.room
 ·have e1 : ((R : Int) == (S.room : Int)) = true := by simp [e]
  simp (maxSteps := 2000000) -implicitDefEqProofs (disch := (first | omega | rfl | assumption | (simp only [rsD]; first | omega | assumption))) only [hb, e1, Nat.reduceAdd, Nat.reduceMul, Nat.reduceLT, Int.reduceToNat, Int.reduceAdd, Int.reduceSub, Int.reduceMul, rsU, rsC]
  refine Ok_some.2 ⟨rfl, M, R, w, ?_, hR, Wrt.refl h.now, Keep.refl _ _⟩
  rw [e]; exact h
 ·have e1 : ((R : Int) == (S.room : Int)) = false := by simp; omega
  simp (maxSteps := 2000000) -implicitDefEqProofs (disch := (first | omega | rfl | assumption | (simp only [rsD]; first | omega | assumption))) only [hb, e1, Nat.reduceAdd, Nat.reduceMul, Nat.reduceLT, Int.reduceToNat, Int.reduceAdd, Int.reduceSub, Int.reduceMul, rsU, rsC]
  refine Ok.step (growX h.mi hc h.now (n := (R : Int)) (by omega) (by omega)) fun r ⟨p1, M', p2, p3, p4⟩ => ?_
  obtain ⟨q, J1⟩ := r
  simp only at p1 p2 p4
  subst p1
  have hb1 : J1.blk fb = _ := p4.head.trans hb
  have e0 : ((0 : Int) != 0) = false := rfl
  simp (maxSteps := 2000000) -implicitDefEqProofs (disch := (first | omega | rfl | assumption | (simp only [rsD]; first | omega | assumption))) only [e0, hb1, Nat.reduceAdd, Nat.reduceMul, Nat.reduceLT, Int.reduceToNat, Int.reduceAdd, Int.reduceSub, Int.reduceMul, rsU, rsC]
  rw [Int.toNat_natCast] at p3
  refine Ok_some.2 ⟨rfl, M', R, _, ⟨p2.put List.mem_cons_self _, s_bs, h.nx, p3.words h.now, by simp; omega, .inr hle.2.2, ?_, h.len⟩, hR, p3, p4.tail.trans (Keep.put h.nx _)⟩
  have hle := h.le
  rw [List.take_append_of_le_length hle]; exact h.pre
end
end Go.Abs.Tryz
namespace Go.Abs.Tryz
open Go Go.Abs
variable {O : Type}
theorem frame_ok {J : AH O} {n : Int} : shape_Frame [.i .i64 n] J = some (.i .i64 (if 0 <= n /\ n <= 256 then 2 + n else 0), J) := by
 by_cases c1 : n < 0
 ·rw [if_neg (by omega)]
  simp (maxSteps := 2000000) -implicitDefEqProofs (disch := (first | omega | rfl | assumption | (simp only [rsD]; first | omega | assumption))) only [shape_Frame, shape_Frame_c, Nat.reduceAdd, Nat.reduceMul, Nat.reduceLT, Int.reduceToNat, Int.reduceAdd, Int.reduceSub, Int.reduceMul, rsU, rsC]
 ·by_cases c2 : n > 256
  ·rw [if_neg (by omega)]
   simp (maxSteps := 2000000) -implicitDefEqProofs (disch := (first | omega | rfl | assumption | (simp only [rsD]; first | omega | assumption))) only [shape_Frame, shape_Frame_c, Nat.reduceAdd, Nat.reduceMul, Nat.reduceLT, Int.reduceToNat, Int.reduceAdd, Int.reduceSub, Int.reduceMul, rsU, rsC]
  ·rw [if_pos (by omega)]
   simp (maxSteps := 2000000) -implicitDefEqProofs (disch := (first | omega | rfl | assumption | (simp only [rsD]; first | omega | assumption))) only [shape_Frame, shape_Frame_c, Nat.reduceAdd, Nat.reduceMul, Nat.reduceLT, Int.reduceToNat, Int.reduceAdd, Int.reduceSub, Int.reduceMul, rsU, rsC]
section
variable {J : AH O} {fb mb : Nat} {M : MemS} {S : FrmS} {w : List Int} {X : List Nat} (h : FrmAt J fb mb M S w X) (hc : M.calm)
include h hc
theorem fpush_bad {n : Int} (hn : n < 0 ∨ n > 256) : frames_Frames__Push [.p (some (.n fb, 0)), .i .i64 n] J = some (.i .i64 1, J) := by
 have fr := frame_ok (J := J) (n := n)
 rw [if_neg (by omega)] at fr
 simp (maxSteps := 2000000) -implicitDefEqProofs (disch := (first | omega | rfl | assumption | (simp only [rsD]; first | omega | assumption))) only [frames_Frames__Push, frames_Frames__Push_c, fr, Nat.reduceAdd, Nat.reduceMul, Nat.reduceLT, Int.reduceToNat, Int.reduceAdd, Int.reduceSub, Int.reduceMul, rsU, rsC]
theorem fpush_ok {n : Nat} (hn : n <= 256) (hroom : wds S.L + (2 + n) <= 4194304) (hmw : M.met.w + 300 < 85070591730234615865843651857942052864) :
  Ok (frames_Frames__Push [.p (some (.n fb, 0)), .i .i64 (n : Int)] J) fun r => r.1 = .i .i64 0 /\ ∃ M' room' w', FrmAt r.2 fb mb M' { S with room := room', L := List.replicate n 0 :: S.L } w' X /\ Rm S.room (wds S.L + (2 + n)) room' /\ Wrt M M' S.id w' 0 (2 + n) /\ Keep X J r.2 := by
 have fr := frame_ok (J := J) (n := (n : Int))
 rw [if_pos (by omega)] at fr
 have hb := h.b
 simp only [FrmS.cells] at hb
 have hle := h.le
 have hwl := h.wle
 simp (maxSteps := 2000000) -implicitDefEqProofs (disch := (first | omega | rfl | assumption | (simp only [rsD]; first | omega | assumption))) only [frames_Frames__Push, frames_Frames__Push_c, fr, hb, Nat.reduceAdd, Nat.reduceMul, Nat.reduceLT, Int.reduceToNat, Int.reduceAdd, Int.reduceSub, Int.reduceMul, rsU, rsC]
 have g := fgrow_ok h hc (n := wds S.L + (2 + n)) hroom
 rw [show ((wds S.L + (2 + n) : Nat) : Int) = (wds S.L : Int) + (2 + (n : Int)) by omega] at g
 refine Ok.step g fun r ⟨g1, M1, room', w1, g2, g3, g4, g5⟩ => ?_
 obtain ⟨q, J1⟩ := r
 simp only at g1 g2 g5
 subst g1
 have hb1 := g2.b
 simp only [FrmS.cells] at hb1
 have e0 : ((0 : Int) != 0) = false := rfl
 have hlk : IntKind.u64.wrap (bif decide ((S.L.length : Int) > 0) then IntKind.i64.wrap (fbase S.L + 1) else 0) = lnk S.L := by
  cases hL : S.L with
  | nil => rfl
  | cons f r =>
   rw [hL] at hle
   simp only [wds] at hle
   rw [decide_eq_true (by simp), cond_true, s_i64 (by simp only [fbase]; omega), s_u64 (by simp only [fbase]; omega)]; rfl
 have hlw : w1.length = room' := g2.room
 have hrm : wds S.L + (2 + n) <= room' := by obtain ⟨j, _, h2, _⟩ := g3; exact h2
 have hw1l := g2.wle
 have hl1 := lnk_le S.L
 have hl2 := lnk_nn S.L
 simp (maxSteps := 2000000) -implicitDefEqProofs (disch := (first | omega | rfl | assumption | (simp only [rsD]; first | omega | assumption))) only [e0, hb1, hlk, Nat.reduceAdd, Nat.reduceMul, Nat.reduceLT, Int.reduceToNat, Int.reduceAdd, Int.reduceSub, Int.reduceMul, rsU, rsC]
 have hc1 : M1.calm := ⟨by rw [g4.r]; have := hc.r; omega, by rw [g4.w]; have := hc.w; omega⟩
 have hnw1 := g2.now
 simp only at hnw1
 refine Ok.step (writeX g2.mi hc1 hnw1 (at_ := (wds S.L : Int) + 0) (x := lnk S.L) (by omega) (by omega)) fun r ⟨p1, M2, p2, p3, p4⟩ => ?_
 obtain ⟨q, J2⟩ := r
 simp only at p1 p2 p4
 subst p1
 have hb2 : J2.blk fb = _ := p4.head.trans hb1
 simp (maxSteps := 2000000) -implicitDefEqProofs (disch := (first | omega | rfl | assumption | (simp only [rsD]; first | omega | assumption))) only [hb2, Nat.reduceAdd, Nat.reduceMul, Nat.reduceLT, Int.reduceToNat, Int.reduceAdd, Int.reduceSub, Int.reduceMul, rsU, rsC]
 have hc2 : M2.calm := ⟨by rw [p3.r, g4.r]; have := hc.r; omega, by rw [p3.w, g4.w]; have := hc.w; omega⟩
 have hnw2 := p3.words hnw1
 refine Ok.step (writeX p2 hc2 hnw2 (at_ := (wds S.L : Int) + 1) (x := (n : Int)) (by omega) (by rw [List.length_set]; omega)) fun r ⟨q1, M3, q2, q3, q4⟩ => ?_
 obtain ⟨q, J3⟩ := r
 simp only at q1 q2 q4
 subst q1
 have hb3 : J3.blk fb = _ := q4.head.trans hb2
 simp (maxSteps := 2000000) -implicitDefEqProofs (disch := (first | omega | rfl | assumption | (simp only [rsD]; first | omega | assumption))) only [hb3, Nat.reduceAdd, Nat.reduceMul, Nat.reduceLT, Int.reduceToNat, Int.reduceAdd, Int.reduceSub, Int.reduceMul, rsU, rsC]
 have hc3 : M3.calm := ⟨by rw [q3.r, p3.r, g4.r]; have := hc.r; omega, by rw [q3.w, p3.w, g4.w]; have := hc.w; omega⟩
 have hnw3 := q3.words hnw2
 refine Ok.step (zeroX q2 hc3 hnw3 (at_ := (wds S.L : Int) + 2) (n := (n : Int)) (by omega) (by omega) (by rw [List.length_set, List.length_set]; omega)) fun r ⟨m1, M4, m2, m3, m4⟩ => ?_
 obtain ⟨q, J4⟩ := r
 simp only at m1 m2 m4
 subst m1
 have hb4 : J4.blk fb = _ := m4.head.trans hb3
 have hlt4 := m2.lt fb List.mem_cons_self
 have hdep : (S.L.length : Int) <= wds S.L := by
  have : ∀ L : List (List Int), L.length <= wds L := fun L => by
   induction L with
   | nil => exact Nat.le_refl _
   | cons f r ih => simp only [List.length_cons, wds]; omega
  exact_mod_cast this S.L
 simp (maxSteps := 2000000) -implicitDefEqProofs (disch := (first | omega | rfl | assumption | (simp only [rsD]; first | omega | assumption))) only [hb4, Nat.reduceAdd, Nat.reduceMul, Nat.reduceLT, Int.reduceToNat, Int.reduceAdd, Int.reduceSub, Int.reduceMul, rsU, rsC]
 have t0 : ((wds S.L : Int) + 0).toNat = wds S.L := by omega
 have t1 : ((wds S.L : Int) + 1).toNat = wds S.L + 1 := by omega
 have t2 : ((wds S.L : Int) + 2).toNat = wds S.L + 2 := by omega
 rw [t0] at p3
 rw [t0, t1] at q3
 rw [t0, t1, t2, Int.toNat_natCast] at m3
 have pl := lay_push (z := List.replicate n 0) (x := lnk S.L) (y := (n : Int)) g2.pre (lay_len _) (by rw [List.length_replicate]; show wds S.L + _ <= _; omega)
 refine Ok_some.2 ⟨rfl, M4, room', _, ⟨(m2.put List.mem_cons_self _), s_bs.trans ?_, h.nx, m3.words hnw3, ?_, g2.pow, ?_, ?_⟩, g3, ?_, ?_⟩
 ·simp only [FrmS.cells, wds, List.length_replicate, List.length_cons, fbase, fslots]
  congr
  all_goals omega
 ·rw [patched_len (by rw [List.length_set, List.length_set, List.length_replicate]; omega), List.length_set, List.length_set]; exact hlw
 ·simp only [wds, lay, List.length_replicate] at pl ⊢
  exact pl
 ·intro f hf
  rcases List.mem_cons.1 hf with rfl | hf
  ·simpa using hn
  ·exact h.len f hf
 ·exact (((g4.trans p3).trans q3).trans m3).as rfl (by omega) (by omega)
 ·exact ((((g5.trans p4.tail).trans q4.tail).trans m4.tail)).trans (Keep.put h.nx _)
def fwrong (L : List (List Int)) (slot : Int) : Int := match L with | [] => 33 | f :: _ => if slot < 0 ∨ slot >= f.length then 32 else 0
omit hc in
theorem fcheck_ok {slot : Int} : frames_Frames__check [.p (some (.n fb, 0)), .i .i64 slot] J = some (.i .i64 (fwrong S.L slot), J) := by
 have hb := h.b
 simp only [FrmS.cells] at hb
 cases hL : S.L with
 | nil =>
  rw [hL] at hb
  have e0 : (((([] : List (List Int)).length : Nat) : Int) == 0) = true := rfl
  simp (maxSteps := 2000000) -implicitDefEqProofs (disch := (first | omega | rfl | assumption | (simp only [rsD]; first | omega | assumption))) only [frames_Frames__check, frames_Frames__check_c, hb, e0, fwrong, Nat.reduceAdd, Nat.reduceMul, Nat.reduceLT, Int.reduceToNat, Int.reduceAdd, Int.reduceSub, Int.reduceMul, rsU, rsC]
 | cons f r =>
  rw [hL] at hb
  simp only [fslots] at hb
  have e0 : (((r.length + 1 : Nat) : Int) == 0) = false := by simp; omega
  by_cases c1 : slot < 0
  ·have : fwrong (f :: r) slot = 32 := by simp only [fwrong]; rw [if_pos (.inl c1)]
   rw [this]
   simp -implicitDefEqProofs only [frames_Frames__check, frames_Frames__check_c, hb, e0, decide_eq_true c1, Nat.reduceAdd, Nat.reduceMul, Nat.reduceLT, Int.reduceToNat, Int.reduceAdd, Int.reduceSub, Int.reduceMul, rsU, s_ldI, s_ldU, s_ldS, s_ldP, s_gtI, s_gtU, s_gtS, s_bleD, Nat.reduceLeDiff, decide_true, decide_false]
  ·by_cases c2 : slot >= f.length
   ·have : fwrong (f :: r) slot = 32 := by simp only [fwrong]; rw [if_pos (.inr c2)]
    rw [this]
    simp -implicitDefEqProofs only [frames_Frames__check, frames_Frames__check_c, hb, e0, decide_eq_false c1, decide_eq_true c2, Nat.reduceAdd, Nat.reduceMul, Nat.reduceLT, Int.reduceToNat, Int.reduceAdd, Int.reduceSub, Int.reduceMul, rsU, s_ldI, s_ldU, s_ldS, s_ldP, s_gtI, s_gtU, s_gtS, s_bleD, Nat.reduceLeDiff, decide_true, decide_false]
   ·have : fwrong (f :: r) slot = 0 := by simp only [fwrong]; rw [if_neg (by omega)]
    rw [this]
    simp -implicitDefEqProofs only [frames_Frames__check, frames_Frames__check_c, hb, e0, decide_eq_false c1, decide_eq_false c2, Nat.reduceAdd, Nat.reduceMul, Nat.reduceLT, Int.reduceToNat, Int.reduceAdd, Int.reduceSub, Int.reduceMul, rsU, s_ldI, s_ldU, s_ldS, s_ldP, s_gtI, s_gtU, s_gtS, s_bleD, Nat.reduceLeDiff, decide_true, decide_false]
theorem fset_bad {slot x : Int} (hw : fwrong S.L slot ≠ 0) : frames_Frames__Set [.p (some (.n fb, 0)), .i .i64 slot, .i .u64 x] J = some (.i .i64 (fwrong S.L slot), J) := by
 have ck := fcheck_ok h (slot := slot)
 have e0 : (fwrong S.L slot != 0) = true := by simp [hw]
 simp (maxSteps := 2000000) -implicitDefEqProofs (disch := (first | omega | rfl | assumption | (simp only [rsD]; first | omega | assumption))) only [frames_Frames__Set, frames_Frames__Set_c, ck, e0, Nat.reduceAdd, Nat.reduceMul, Nat.reduceLT, Int.reduceToNat, Int.reduceAdd, Int.reduceSub, Int.reduceMul, rsU, rsC]
theorem fset_ok {slot x : Int} {f : List Int} {r : List (List Int)} (hL : S.L = f :: r) (h0 : 0 <= slot) (h1 : slot < f.length) :
  Ok (frames_Frames__Set [.p (some (.n fb, 0)), .i .i64 slot, .i .u64 x] J) fun q => q.1 = .i .i64 0 /\ ∃ M' w', FrmAt q.2 fb mb M' { S with L := f.set slot.toNat x :: r } w' X /\ Wrt M M' S.id w' 0 1 /\ Keep X J q.2 := by
 have hb := h.b
 simp only [FrmS.cells, hL, fbase] at hb
 have hle := h.le
 rw [hL] at hle
 simp only [wds] at hle
 have hwl := h.wle
 have ck := fcheck_ok h (slot := slot)
 have z : fwrong S.L slot = 0 := by rw [hL]; simp only [fwrong]; rw [if_neg (by omega)]
 rw [z] at ck
 have e0 : ((0 : Int) != 0) = false := rfl
 simp (maxSteps := 2000000) -implicitDefEqProofs (disch := (first | omega | rfl | assumption | (simp only [rsD]; first | omega | assumption))) only [frames_Frames__Set, frames_Frames__Set_c, ck, e0, hb, Nat.reduceAdd, Nat.reduceMul, Nat.reduceLT, Int.reduceToNat, Int.reduceAdd, Int.reduceSub, Int.reduceMul, rsU, rsC]
 refine Ok.step (writeX h.mi hc h.now (at_ := (wds r : Int) + 2 + slot) (x := x) (by omega) (by omega)) fun q ⟨p1, M1, p2, p3, p4⟩ => ?_
 obtain ⟨q, J1⟩ := q
 simp only at p1 p2 p4
 subst p1
 simp (maxSteps := 2000000) -implicitDefEqProofs (disch := (first | omega | rfl | assumption | (simp only [rsD]; first | omega | assumption))) only [Nat.reduceAdd, Nat.reduceMul, Nat.reduceLT, Int.reduceToNat, Int.reduceAdd, Int.reduceSub, Int.reduceMul, rsU, rsC]
 have t0 : ((wds r : Int) + 2 + slot).toNat = wds r + 2 + slot.toNat := by omega
 rw [t0] at p3
 refine Ok_some.2 ⟨rfl, M1, _, ⟨p2, p4.head.trans ?_, h.nx, p3.words h.now, by rw [List.length_set]; exact h.room, h.pow, ?_, ?_⟩, p3, p4.tail⟩
 ·rw [h.b]
  simp [FrmS.cells, hL, wds, fbase, fslots]
 ·exact lay_set (by have := h.pre; rw [hL] at this; exact this)
 ·intro g hg
  have hlen := h.len
  rw [hL] at hlen
  rcases List.mem_cons.1 hg with rfl | hg
  ·rw [List.length_set]; exact hlen f List.mem_cons_self
  ·exact hlen g (List.mem_cons_of_mem _ hg)
theorem fget_bad {slot : Int} (hw : fwrong S.L slot ≠ 0) : frames_Frames__Get [.p (some (.n fb, 0)), .i .i64 slot] J = some (.tup [.i .u64 0, .i .i64 (fwrong S.L slot)], J) := by
 have ck := fcheck_ok h (slot := slot)
 have e0 : (fwrong S.L slot != 0) = true := by simp [hw]
 simp (maxSteps := 2000000) -implicitDefEqProofs (disch := (first | omega | rfl | assumption | (simp only [rsD]; first | omega | assumption))) only [frames_Frames__Get, frames_Frames__Get_c, ck, e0, Nat.reduceAdd, Nat.reduceMul, Nat.reduceLT, Int.reduceToNat, Int.reduceAdd, Int.reduceSub, Int.reduceMul, rsU, rsC]
theorem fget_ok {slot : Int} {f : List Int} {r : List (List Int)} (hL : S.L = f :: r) (h0 : 0 <= slot) (h1 : slot < f.length) :
  Ok (frames_Frames__Get [.p (some (.n fb, 0)), .i .i64 slot] J) fun q => q.1 = .tup [.i .u64 (f.getD slot.toNat 0), .i .i64 0] /\ ∃ M', FrmAt q.2 fb mb M' S w X /\ Wrt M M' S.id w 1 0 /\ Keep X J q.2 := by
 have hb := h.b
 simp only [FrmS.cells, hL, fbase] at hb
 have hle := h.le
 rw [hL] at hle
 simp only [wds] at hle
 have hwl := h.wle
 have ck := fcheck_ok h (slot := slot)
 have z : fwrong S.L slot = 0 := by rw [hL]; simp only [fwrong]; rw [if_neg (by omega)]
 rw [z] at ck
 have e0 : ((0 : Int) != 0) = false := rfl
 simp (maxSteps := 2000000) -implicitDefEqProofs (disch := (first | omega | rfl | assumption | (simp only [rsD]; first | omega | assumption))) only [frames_Frames__Get, frames_Frames__Get_c, ck, e0, hb, Nat.reduceAdd, Nat.reduceMul, Nat.reduceLT, Int.reduceToNat, Int.reduceAdd, Int.reduceSub, Int.reduceMul, rsU, rsC]
 refine Ok.step (readX h.mi hc h.now (at_ := (wds r : Int) + 2 + slot) (by omega) (by omega)) fun q ⟨p1, M1, p2, p3, p4⟩ => ?_
 obtain ⟨q, J1⟩ := q
 simp only at p1 p2 p4
 subst p1
 simp (maxSteps := 2000000) -implicitDefEqProofs (disch := (first | omega | rfl | assumption | (simp only [rsD]; first | omega | assumption))) only [Nat.reduceAdd, Nat.reduceMul, Nat.reduceLT, Int.reduceToNat, Int.reduceAdd, Int.reduceSub, Int.reduceMul, rsU, rsC]
 have t0 : ((wds r : Int) + 2 + slot).toNat = wds r + 2 + slot.toNat := by omega
 have hf : slot.toNat < f.length := by omega
 have hx := List.getElem?_eq_getElem hf
 have hpre := h.pre
 rw [hL] at hpre
 have hv := (lay_at hpre).2.2 _ _ hx
 refine Ok_some.2 ⟨?_, M1, { h with mi := p2, b := p4.head.trans h.b, now := p3.words h.now }, p3, p4.tail⟩
 rw [t0, List.getD_eq_getElem?_getD, hv, List.getD_eq_getElem?_getD, hx]
end
end Go.Abs.Tryz
set_option maxHeartbeats 400000
namespace Go.Abs.Tryz
open Go Go.Abs
variable {O : Type}
theorem bump_ext (J : AH O) (k : Nat) : Ext J (J.bump k) := (Ext.refl J).bump k
theorem box_ext (J : AH O) (x : Blk O) : Ext J ((J.bump 1).put J.next x) := (bump_ext J 1).put (Nat.le_refl _) x
section
variable {J : AH O} {fb mb : Nat} {M : MemS} {S : FrmS} {w : List Int} {X : List Nat} (h : FrmAt J fb mb M S w X) (hc : M.calm)
include h hc
theorem funder_ok {pre : List (List Int)} {f : List Int} {r : List (List Int)} (hL : S.L = pre ++ f :: r) (hmr : M.met.r + 10 < 85070591730234615865843651857942052864) :
  Ok (frames_Frames__under [.p (some (.n fb, 0)), .i .i64 (wds r : Int)] J) fun q => q.1 = .tup [.agg [.i .i64 (fbase r), .i .i64 (fslots r)], .b (!r.isEmpty)] /\ ∃ M' dr, FrmAt q.2 fb mb M' S w X /\ Wrt M M' S.id w dr 0 /\ 1 <= dr /\ dr <= 2 /\ Keep X J q.2 := by
 have hb := h.b
 simp only [FrmS.cells] at hb
 have hlt := h.lt
 have hwl := h.wle
 have hpre : w.take (wds (f :: r)) = lay (f :: r) := lay_tail pre (by rw [<- hL]; exact h.pre)
 obtain ⟨a1, a2, _⟩ := lay_at hpre
 have b1 := (List.getElem?_eq_some_iff.1 a1).1
 have hl1 := lnk_le r
 have hl2 := lnk_nn r
 simp (maxSteps := 2000000) -implicitDefEqProofs (disch := (first | omega | rfl | assumption | (simp only [rsD]; first | omega | assumption))) only [frames_Frames__under, frames_Frames__under_c, hb, Nat.reduceAdd, Nat.reduceMul, Nat.reduceLT, Int.reduceToNat, Int.reduceAdd, Int.reduceSub, Int.reduceMul, rsU, rsC]
 generalize hs : (J.bump 1).put J.next (.cells true _ [.i .i64 0, .i .i64 0]) = J1
 have hx : J1.blk J.next = some (.cells true T_frames_top [.i .i64 0, .i .i64 0]) := by rw [<- hs]; exact s_bs
 have he : Ext J J1 := by rw [<- hs]; exact box_ext _ _
 have hn1 : J1.next = J.next + 1 := by rw [<- hs]; rfl
 clear hs
 have h1 := h.new he (b := J.next) (Nat.le_refl _) (by omega)
 have hb1 := h1.b
 simp only [FrmS.cells] at hb1
 refine Ok.step (readX h1.mi hc h1.now (at_ := (wds r : Int)) (by omega) (by omega)) fun q ⟨p1, M2, p2, p3, p4⟩ => ?_
 obtain ⟨q, J2⟩ := q
 simp only at p1 p2 p4
 rw [Int.toNat_natCast, List.getD_eq_getElem?_getD, a1] at p1
 simp only [Option.getD_some] at p1
 subst p1
 have hb2 : J2.blk fb = _ := p4.head.trans hb1
 have hx2 : J2.blk J.next = _ := (p4.blk _ (by simp)).trans hx
 have hne := h1.nx
 have hnx : J.next ∉ X := fun hm => by have := h.mi.lt _ (List.mem_cons_of_mem _ hm); omega
 have fin : ∀ (J' : AH O) (M' : MemS) (dr : Int), MemIn J' mb M' (fb :: J.next :: X) -> J'.blk fb = some (.cells true T_frames_Frames (S.cells mb)) -> Keep X J J' -> Wrt M M' S.id w dr 0 -> 1 <= dr -> dr <= 2 -> ∀ x, ∃ M'' dr', FrmAt (J'.put J.next x) fb mb M'' S w X /\ Wrt M M'' S.id w dr' 0 /\ 1 <= dr' /\ dr' <= 2 /\ Keep X J (J'.put J.next x) :=
  fun J' M' dr g1 g2 g3 g4 g5 g6 x => ⟨M', dr, { h with mi := (g1.put (by simp) x).mono (fun c hc => by simp at hc ⊢; rcases hc with hc | hc <;> simp [hc]), b := (s_bn (by omega)).trans g2, now := g4.words h.now }, g4, g5, g6, g3.trans (Keep.put hnx _)⟩
 have kx : Keep X J J1 := h.mi.tail.keepExt he
 cases r with
 | nil =>
  have e0 : (lnk [] == 0) = true := rfl
  simp (maxSteps := 2000000) -implicitDefEqProofs (disch := (first | omega | rfl | assumption | (simp only [rsD]; first | omega | assumption))) only [e0, hx2, Nat.reduceAdd, Nat.reduceMul, Nat.reduceLT, Int.reduceToNat, Int.reduceAdd, Int.reduceSub, Int.reduceMul, rsU, rsC]
  exact Ok_some.2 ⟨rfl, fin _ _ _ p2 hb2 (kx.trans p4.tail.tail) p3 (by decide) (by decide) _⟩
 | cons g r' =>
  have e0 : (lnk (g :: r') == 0) = false := by
   have : lnk (g :: r') ≠ 0 := by simp only [lnk]; omega
   simpa using this
  have hpre2 : w.take (wds (g :: r')) = lay (g :: r') := lay_tail (pre ++ [f]) (by rw [List.append_assoc]; show w.take (wds (pre ++ f :: g :: r')) = lay (pre ++ f :: g :: r'); rw [<- hL]; exact h.pre)
  obtain ⟨c1, c2, _⟩ := lay_at hpre2
  have b2 := (List.getElem?_eq_some_iff.1 c2).1
  have hgl : g.length <= 256 := h.len g (by rw [hL]; simp)
  have hlk : lnk (g :: r') = (wds r' : Int) + 1 := rfl
  have v0 : lnk (g :: r') - 1 = (wds r' : Int) := by rw [hlk]; omega
  simp (maxSteps := 2000000) -implicitDefEqProofs (disch := (first | omega | rfl | assumption | (simp only [rsD]; first | omega | assumption))) only [e0, hb2, v0, Nat.reduceAdd, Nat.reduceMul, Nat.reduceLT, Int.reduceToNat, Int.reduceAdd, Int.reduceSub, Int.reduceMul, rsU, rsC]
  have hc2 : M2.calm := ⟨by rw [p3.r]; omega, by rw [p3.w]; have := hc.w; omega⟩
  refine Ok.step (readX p2 hc2 (p3.words h.now) (at_ := (wds r' : Int) + 1) (by omega) (by omega)) fun q ⟨q1, M3, q2, q3, q4⟩ => ?_
  obtain ⟨q, J3⟩ := q
  simp only at q1 q2 q4
  rw [show ((wds r' : Int) + 1).toNat = wds r' + 1 by omega, List.getD_eq_getElem?_getD, c2] at q1
  simp only [Option.getD_some] at q1
  subst q1
  have hb3 : J3.blk fb = _ := q4.head.trans hb2
  have hx3 : J3.blk J.next = _ := (q4.blk _ (by simp)).trans hx2
  simp (maxSteps := 2000000) -implicitDefEqProofs (disch := (first | omega | rfl | assumption | (simp only [rsD]; first | omega | assumption))) only [hx3, Nat.reduceAdd, Nat.reduceMul, Nat.reduceLT, Int.reduceToNat, Int.reduceAdd, Int.reduceSub, Int.reduceMul, rsU, rsC]
  exact Ok_some.2 ⟨rfl, fin _ _ _ q2 hb3 ((kx.trans p4.tail.tail).trans q4.tail.tail) (p3.trans q3) (by decide) (by decide) _⟩
theorem fpop_none (hL : S.L = []) : frames_Frames__Pop [.p (some (.n fb, 0))] J = some (.i .i64 33, J) := by
 have hb := h.b
 simp only [FrmS.cells, hL] at hb
 have e0 : (((([] : List (List Int)).length : Nat) : Int) == 0) = true := rfl
 simp (maxSteps := 2000000) -implicitDefEqProofs (disch := (first | omega | rfl | assumption | (simp only [rsD]; first | omega | assumption))) only [frames_Frames__Pop, frames_Frames__Pop_c, hb, e0, Nat.reduceAdd, Nat.reduceMul, Nat.reduceLT, Int.reduceToNat, Int.reduceAdd, Int.reduceSub, Int.reduceMul, rsU, rsC]
theorem fpop_ok {f : List Int} {r : List (List Int)} (hL : S.L = f :: r) (hmr : M.met.r + 10 < 85070591730234615865843651857942052864) :
  Ok (frames_Frames__Pop [.p (some (.n fb, 0))] J) fun q => q.1 = .i .i64 0 /\ ∃ M' dr, FrmAt q.2 fb mb M' { S with L := r } w X /\ Wrt M M' S.id w dr 0 /\ 1 <= dr /\ dr <= 2 /\ Keep X J q.2 := by
 have hb := h.b
 simp only [FrmS.cells, hL, fbase] at hb
 have hlt := h.lt
 have hwl := h.wle
 have hle := h.le
 rw [hL] at hle
 simp only [wds] at hle
 have e0 : (((f :: r).length : Nat) : Int) = (r.length : Int) + 1 := by simp
 have e1 : ((r.length : Int) + 1 == 0) = false := by simp; omega
 rw [e0] at hb
 have hdep : (r.length : Int) <= wds r := by
  have : ∀ L : List (List Int), L.length <= wds L := fun L => by
   induction L with
   | nil => exact Nat.le_refl _
   | cons f r ih => simp only [List.length_cons, wds]; omega
  exact_mod_cast this r
 simp (maxSteps := 2000000) -implicitDefEqProofs (disch := (first | omega | rfl | assumption | (simp only [rsD]; first | omega | assumption))) only [frames_Frames__Pop, frames_Frames__Pop_c, hb, e1, Nat.reduceAdd, Nat.reduceMul, Nat.reduceLT, Int.reduceToNat, Int.reduceAdd, Int.reduceSub, Int.reduceMul, rsU, rsC]
 have h1 := h.new (bump_ext J 1) (b := J.next) (Nat.le_refl _) (by simp)
 refine Ok.step (funder_ok h1 hc (pre := []) hL hmr) fun q ⟨p1, M2, dr, p2, p3, d1, d2, p4⟩ => ?_
 obtain ⟨q, J1⟩ := q
 simp only at p1 p2 p4
 subst p1
 have hb2 := p2.b
 simp only [FrmS.cells, hL, fbase] at hb2
 rw [e0] at hb2
 have hlt2 := p2.lt
 have hne := p2.nx
 simp only [List.mem_cons, not_or] at hne
 have hnx : J.next ∉ X := fun hm => by have := h.mi.lt _ (List.mem_cons_of_mem _ hm); omega
 simp (maxSteps := 2000000) -implicitDefEqProofs (disch := (first | omega | rfl | assumption | (simp only [rsD]; first | omega | assumption))) only [hb2, Nat.reduceAdd, Nat.reduceMul, Nat.reduceLT, Int.reduceToNat, Int.reduceAdd, Int.reduceSub, Int.reduceMul, rsU, rsC]
 refine Ok_some.2 ⟨rfl, M2, dr, ⟨?_, ?_, h.nx, p2.now, h.room, h.pow, lay_tail [f] (by have := h.pre; rw [hL] at this; exact this), fun g hg => h.len g (by rw [hL]; exact List.mem_cons_of_mem _ hg)⟩, p3, d1, d2, ?_⟩
 ·exact ((p2.mi.put (b := J.next) (by simp) _).put (b := fb) (by simp) _).mono (fun c hc => by simp at hc ⊢; rcases hc with hc | hc <;> simp [hc])
 ·exact s_bs.trans (by rw [show (r.length : Int) + 1 - 1 = r.length by omega]; rfl)
 ·exact ((Keep.bump X J 1).trans p4.tail).trans ((Keep.put hnx _).trans (Keep.put h.nx _))
end
theorem fnew_ok {J : AH O} {mb : Nat} {M : MemS} {X : List Nat} (h : MemIn J mb M X) (hc : M.calm) (hcnt : M.count < 262144) :
  Ok (frames_New [.p (some (.n mb, 0))] J) fun r => ∃ fb, r.1 = .tup [.p (some (.n fb, 0)), .i .i64 0] /\ FrmAt r.2 fb mb (M.opn (ff M.sp) 0) ⟨ff M.sp, 0, []⟩ [] X /\ J.next <= fb /\ Keep X J r.2 := by
 simp (maxSteps := 2000000) -implicitDefEqProofs (disch := (first | omega | rfl | assumption | (simp only [rsD]; first | omega | assumption))) only [frames_New, frames_New_c, Option.isNone_some, Nat.reduceAdd, Nat.reduceMul, Nat.reduceLT, Int.reduceToNat, Int.reduceAdd, Int.reduceSub, Int.reduceMul, rsU, rsC]
 refine Ok.step (openX h hc (n := 0) (by decide) (by decide) hcnt) fun r ⟨p1, p2, p3⟩ => ?_
 obtain ⟨q, J1⟩ := r
 simp only at p1 p2 p3
 subst p1
 have e0 : ((0 : Int) != 0) = false := rfl
 simp (maxSteps := 2000000) -implicitDefEqProofs (disch := (first | omega | rfl | assumption | (simp only [rsD]; first | omega | assumption))) only [e0, Nat.reduceAdd, Nat.reduceMul, Nat.reduceLT, Int.reduceToNat, Int.reduceAdd, Int.reduceSub, Int.reduceMul, rsU, rsC]
 refine Ok_some.2 ⟨J1.next, rfl, ⟨p2.new (box_ext _ _) (Nat.le_refl _) (by simp), s_bs, fun hm => by have := p2.lt _ hm; omega, opn_words, rfl, .inl rfl, rfl, by simp⟩, p3.next, p3.trans (p2.keepExt (box_ext _ _))⟩
end Go.Abs.Tryz
set_option maxHeartbeats 2000000
namespace Go.Abs.Tryz
open Go Go.Abs
variable {O : Type}
theorem set_same' {α : Type} {l : List α} {i : Nat} {x : α} (h : l[i]? = some x) : l.set i x = l := by
 apply List.ext_getElem?
 intro j
 rw [List.getElem?_set]
 by_cases c : i = j
 ·subst c
  rw [if_pos rfl, if_pos (List.getElem?_eq_some_iff.1 h).1, h]
 ·rw [if_neg c]
noncomputable abbrev fturnV : List (Nat × Sm O) := [(139, mem_Mem__Read), (114, mem_Mem__Write), (193, frames_Frames__under), (129, law19_turn_1)]
theorem lnk_map {L L' : List (List Int)} (h : L'.map List.length = L.map List.length) : lnk L' = lnk L /\ wds L' = wds L /\ fbase L' = fbase L /\ fslots L' = fslots L := by
 have key : ∀ L L' : List (List Int), L'.map List.length = L.map List.length -> wds L' = wds L := by
  intro L
  induction L with
  | nil => intro L' h; cases L' with | nil => rfl | cons => simp at h
  | cons f r ih =>
   intro L' h
   cases L' with
   | nil => simp at h
   | cons g s =>
    simp only [List.map_cons, List.cons.injEq] at h
    simp only [wds, ih s h.2, h.1]
 cases L with
 | nil => cases L' with | nil => exact ⟨rfl, rfl, rfl, rfl⟩ | cons => simp at h
 | cons f r =>
  cases L' with
  | nil => simp at h
  | cons g s =>
   have h' := h
   simp only [List.map_cons, List.cons.injEq] at h'
   have k := key r s h'.2
   exact ⟨by simp [lnk, k], key _ _ h, by simp [fbase, k], by simp [fslots, h'.1]⟩
theorem lay_deep : ∀ (pre : List (List Int)) {f : List Int} {r : List (List Int)} {k : Nat} {x : Int}, k < f.length -> (lay (pre ++ f :: r)).set (wds r + 2 + k) x = lay (pre ++ f.set k x :: r)
 | [], f, r, k, x, hk => by
  simp only [List.nil_append, lay]
  rw [List.set_append_right _ _ (by rw [lay_len]; omega), lay_len, show wds r + 2 + k - wds r = k + 1 + 1 by omega, List.length_set]
  rfl
 | p :: pre, f, r, k, x, hk => by
  have hm := lnk_map (L := pre ++ f :: r) (L' := pre ++ f.set k x :: r) (by simp)
  have hlt : wds r + 2 + k < (lay (pre ++ f :: r)).length := by
   have : ∀ pre : List (List Int), wds r + 2 + k < wds (pre ++ f :: r) := fun pre => by
    induction pre with
    | nil => simp only [List.nil_append, wds]; omega
    | cons q pre ih => simp only [List.cons_append, wds]; omega
   rw [lay_len]; exact this pre
  simp only [List.cons_append, lay]
  rw [List.set_append_left _ _ hlt, lay_deep pre hk, hm.1]
theorem lay_setd {w : List Int} {pre : List (List Int)} {f : List Int} {r : List (List Int)} {k : Nat} {x : Int} (hk : k < f.length) (h : w.take (wds (pre ++ f :: r)) = lay (pre ++ f :: r)) : (w.set (wds r + 2 + k) x).take (wds (pre ++ f.set k x :: r)) = lay (pre ++ f.set k x :: r) := by
 have hm := lnk_map (L := pre ++ f :: r) (L' := pre ++ f.set k x :: r) (by simp)
 rw [hm.2.1, List.take_set, h]
 exact lay_deep pre hk
structure FTurner (fb mb : Nat) (id : Int) (V : List Int) (f : Fn × List AV × List AV) (I : List Int -> Int -> AH O -> MemS -> List Nat -> Prop) : Prop where
 calm : ∀ {Z n J M X}, I Z n J M X -> 0 <= n -> n <= 5 * Z.length + 300 -> Z.length <= V.length -> M.met.r + 1000 < 85070591730234615865843651857942052864 /\ M.met.w + 1000 < 85070591730234615865843651857942052864
 fr : ∀ {Z n J M X J' M' S w S' w' dr dw}, I Z n J M X -> FrmAt J fb mb M S w X -> FrmAt J' fb mb M' S' w' X -> S.id = id -> S'.id = id -> Wrt M M' id w' dr dw -> Keep X J J' -> 0 <= dr -> 0 <= dw -> I Z (n + (dr + dw)) J' M' X
 skip : ∀ {Z n J M X}, V[Z.length]? = some 0 -> I Z n J M X -> I (Z ++ [0]) n J M X
 call : ∀ {fx Z n J M S w X x}, V[Z.length]? = some x -> x ≠ 0 -> S.id = id -> FrmAt J fb mb M S w (fx ++ X) -> I Z n J M X -> (∀ q ∈ fx, q ∉ X) -> Ok (callV fturnV (some f) [.i .u64 x] J) fun r => ∃ y, r.1 = .i .u64 y /\ ∃ M' X', FrmAt r.2 fb mb M' S w (fx ++ X') /\ (∀ q ∈ fx, q ∉ X' /\ r.2.blk q = J.blk q) /\ I (Z ++ [y]) n r.2 M' X'
section
variable {fb mb : Nat} {id : Int} {V : List Int} {f : Fn × List AV × List AV} {I : List Int -> Int -> AH O -> MemS -> List Nat -> Prop} (T : FTurner fb mb id V f I)
include T
theorem fslot_turn {J : AH O} {M : MemS} {S : FrmS} {w : List Int} {X : List Nat} {tb : Nat} {Z : List Int} {n : Int} (h : FrmAt J fb mb M S w (tb :: X)) (hid : S.id = id) (hI : I Z n J M X) (hX : tb ∉ X) {pre : List (List Int)} {g : List Int} {r : List (List Int)} (hL : S.L = pre ++ g :: r) {k : Nat} {x : Int} (hx : g[k]? = some x) (hZ : V[Z.length]? = some x) (hn : 0 <= n /\ n <= 5 * Z.length + 290)
  {e0 : TypeId} {y1 : AV} (ht : J.blk tb = some (.cells true e0 [.i .i64 (wds r : Int), y1])) {J0 : AH O} (h0 : J0.next = tb) :
  Ok (frames_Frames__Turn_L2 (g.length : Int) J0 (some (.n fb, 0)) mem_Mem__Read mem_Mem__Write frames_Frames__under law19_turn_1 (some f) ([.i .i64 (k : Int)], J)) fun q => ∃ J' M' S' w' X' y n', q = .inl ([.i .i64 ((k : Int) + 1)], J') /\ FrmAt J' fb mb M' S' w' (tb :: X') /\ S' = { S with L := pre ++ g.set k y :: r } /\ I (Z ++ [y]) n' J' M' X' /\ n <= n' /\ n' <= n + 2 /\ tb ∉ X' /\ J'.blk tb = J.blk tb := by
 have hk := (List.getElem?_eq_some_iff.1 hx).1
 have hb := h.b
 simp only [FrmS.cells] at hb
 have hwl := h.wle
 have hpre := h.pre
 rw [hL] at hpre
 have hpre2 : w.take (wds (g :: r)) = lay (g :: r) := lay_tail pre hpre
 have hv := (lay_at hpre2).2.2 _ _ hx
 have hvl := (List.getElem?_eq_some_iff.1 hv).1
 have hgl : g.length <= 256 := h.len g (by rw [hL]; simp)
 have hzl := (List.getElem?_eq_some_iff.1 hZ).1
 have cm := T.calm hI hn.1 (by omega) (by omega)
 have hnf : tb ≠ fb := fun e => h.nx (by simp [e])
 simp (maxSteps := 2000000) -implicitDefEqProofs (disch := (first | omega | rfl | assumption | (simp only [rsD]; first | omega | assumption))) only [frames_Frames__Turn_L2, h0, ht, hb, Nat.reduceAdd, Nat.reduceMul, Nat.reduceLT, Int.reduceToNat, Int.reduceAdd, Int.reduceSub, Int.reduceMul, rsU, rsC]
 refine Ok.step (readX h.mi ⟨by omega, by omega⟩ h.now (at_ := (wds r : Int) + 2 + (k : Int)) (by omega) (by omega)) fun q ⟨p1, M1, p2, p3, p4⟩ => ?_
 obtain ⟨q, J1⟩ := q
 simp only at p1 p2 p4
 rw [show ((wds r : Int) + 2 + (k : Int)).toNat = wds r + 2 + k by omega, List.getD_eq_getElem?_getD, hv] at p1
 simp only [Option.getD_some] at p1
 subst p1
 have h1 : FrmAt J1 fb mb M1 S w (tb :: X) := { h with mi := p2, b := p4.head.trans h.b, now := p3.words h.now }
 have I1 := T.fr hI (h.mono (by simp +contextual)) (h1.mono (by simp +contextual)) hid hid (by rw [<- hid]; exact p3) (p4.tail.mono (by simp +contextual)) (by decide) (by decide)
 have t1 : J1.blk tb = _ := (p4.blk tb (by simp)).trans ht
 have hb1 : J1.blk fb = _ := p4.head.trans hb
 by_cases hz : x = 0
 ·have d0 := s_eqT hz
  simp (maxSteps := 2000000) -implicitDefEqProofs (disch := (first | omega | rfl | assumption | (simp only [rsD]; first | omega | assumption))) only [d0, Nat.reduceAdd, Nat.reduceMul, Nat.reduceLT, Int.reduceToNat, Int.reduceAdd, Int.reduceSub, Int.reduceMul, rsU, rsC]
  rw [hz] at hZ
  refine Ok_some.2 ⟨J1, M1, S, w, X, 0, _, rfl, h1, ?_, T.skip hZ I1, by omega, by omega, hX, (p4.blk tb (by simp)).trans ht⟩
  rw [show g.set k 0 = g from set_same' (by rw [hx, hz]), <- hL]
 ·have d0 := s_eqF hz
  simp (maxSteps := 2000000) -implicitDefEqProofs (disch := (first | omega | rfl | assumption | (simp only [rsD]; first | omega | assumption))) only [d0, hb1, Nat.reduceAdd, Nat.reduceMul, Nat.reduceLT, Int.reduceToNat, Int.reduceAdd, Int.reduceSub, Int.reduceMul, rsU, rsC]
  refine Ok.step (T.call (fx := [tb]) hZ hz hid h1 I1 (by simpa using hX)) fun r ⟨y, g1, M2, X2, h2, g2, I2⟩ => ?_
  obtain ⟨q, J2⟩ := r
  simp only at g1 h2 g2 I2
  subst g1
  have hb2 := h2.b
  simp only [FrmS.cells] at hb2
  have cm2 := T.calm I2 (by omega) (by simp; omega) (by simp; omega)
  simp (maxSteps := 2000000) -implicitDefEqProofs (disch := (first | omega | rfl | assumption | (simp only [rsD]; first | omega | assumption))) only [hb2, Nat.reduceAdd, Nat.reduceMul, Nat.reduceLT, Int.reduceToNat, Int.reduceAdd, Int.reduceSub, Int.reduceMul, rsU, rsC]
  refine Ok.step (writeX h2.mi ⟨by omega, by omega⟩ h2.now (at_ := (wds r : Int) + 2 + (k : Int)) (x := y) (by omega) (by omega)) fun q ⟨s1, M3, s2, s3, s4⟩ => ?_
  obtain ⟨q, J3⟩ := q
  simp only at s1 s2 s4
  subst s1
  rw [show ((wds r : Int) + 2 + (k : Int)).toNat = wds r + 2 + k by omega] at s3
  simp (maxSteps := 2000000) -implicitDefEqProofs (disch := (first | omega | rfl | assumption | (simp only [rsD]; first | omega | assumption))) only [Nat.reduceAdd, Nat.reduceMul, Nat.reduceLT, Int.reduceToNat, Int.reduceAdd, Int.reduceSub, Int.reduceMul, rsU, rsC]
  have hm := lnk_map (L := S.L) (L' := pre ++ g.set k y :: r) (by rw [hL]; simp)
  have h3 : FrmAt J3 fb mb M3 { S with L := pre ++ g.set k y :: r } (w.set (wds r + 2 + k) y) (tb :: X2) := by
   refine ⟨s2, s4.head.trans ?_, h2.nx, s3.words h2.now, by rw [List.length_set]; exact h2.room, h2.pow, lay_setd hk hpre, fun q hq => ?_⟩
   ·rw [h2.b]
    simp only [FrmS.cells]
    rw [hm.2.1, hm.2.2.1, hm.2.2.2, hL]; simp
   ·have hlen := h2.len
    rw [hL] at hlen
    simp only [List.mem_append, List.mem_cons] at hq hlen
    rcases hq with hq | rfl | hq
    ·exact hlen q (.inl hq)
    ·rw [List.length_set]; exact hgl
    ·exact hlen q (.inr (.inr hq))
  have I3 := T.fr I2 (h2.mono (by simp +contextual)) (h3.mono (by simp +contextual)) hid hid (by rw [<- hid]; exact s3) (s4.tail.mono (by simp +contextual)) (by decide) (by decide)
  exact Ok_some.2 ⟨J3, M3, _, _, X2, y, _, rfl, h3, rfl, I3, by omega, by omega, (g2 tb (by simp)).1, (s4.blk tb (by simp)).trans ((g2 tb (by simp)).2.trans ((p4.blk tb (by simp)).trans ht))⟩
theorem fframe_turn {J : AH O} {M : MemS} {S : FrmS} {w : List Int} {X : List Nat} {tb : Nat} {n : Int} (h : FrmAt J fb mb M S w (tb :: X)) (hid : S.id = id) {pre : List (List Int)} {g : List Int} {r : List (List Int)} (hI : I pre.flatten n J M X) (hX : tb ∉ X) (hL : S.L = pre ++ g :: r) (hV : ∀ (k : Nat) (x : Int), g[k]? = some x -> V[pre.flatten.length + k]? = some x) (hn : 0 <= n /\ n <= 2 * pre.flatten.length + 250)
  {e0 : TypeId} {y1 : AV} (ht : J.blk tb = some (.cells true e0 [.i .i64 (wds r : Int), y1])) {J0 : AH O} (h0 : J0.next = tb) :
  Ok (loopF (S := List AV × AH O) (T := List AV × AH O) (frames_Frames__Turn_L2 (g.length : Int) J0 (some (.n fb, 0)) mem_Mem__Read mem_Mem__Write frames_Frames__under law19_turn_1 (some f)) ([.i .i64 0], J)) fun q => ∃ J' M' S' w' X' g' n', q = ([], J') /\ FrmAt J' fb mb M' S' w' (tb :: X') /\ S' = { S with L := pre ++ g' :: r } /\ g'.length = g.length /\ I (pre ++ [g']).flatten n' J' M' X' /\ n <= n' /\ n' <= n + 2 * g.length /\ tb ∉ X' /\ J'.blk tb = J.blk tb := by
 have hgl : g.length <= 256 := h.len g (by rw [hL]; simp)
 refine Ok.count g.length (fun k s => ∃ J' M' S' w' X' d n', s = ([.i .i64 (k : Int)], J') /\ d.length = k /\ FrmAt J' fb mb M' S' w' (tb :: X') /\ S' = { S with L := pre ++ (d ++ g.drop k) :: r } /\ I (pre.flatten ++ d) n' J' M' X' /\ n <= n' /\ n' <= n + 2 * k /\ tb ∉ X' /\ J'.blk tb = J.blk tb) ?_ ?_ ⟨J, M, S, w, X, [], n, rfl, rfl, h, by rw [List.drop_zero, List.nil_append, <- hL], by rw [List.append_nil]; exact hI, by omega, by omega, hX, rfl⟩
 ·rintro k s hk ⟨J1, M1, S1, w1, X1, d, n1, rfl, hd, h1, rfl, I1, u1, u2, u3, u4⟩
  have hx := List.getElem?_eq_getElem hk
  generalize g[k] = x at hx
  have hgx : (d ++ g.drop k)[k]? = some x := by rw [List.getElem?_append_right (by omega), hd, Nat.sub_self, List.getElem?_drop, Nat.add_zero]; exact hx
  have hlen : (d ++ g.drop k).length = g.length := by simp; omega
  have st := fslot_turn T h1 (by exact hid) I1 u3 (pre := pre) (g := d ++ g.drop k) (r := r) rfl hgx (by rw [List.length_append, hd]; exact hV k x hx) ⟨by omega, by rw [List.length_append]; omega⟩ (u4.trans ht) h0
  rw [hlen] at st
  refine st.mono ?_
  rintro _ ⟨J2, M2, S2, w2, X2, y, n2, rfl, g1, rfl, g3, g4, g5, g6, g7⟩
  have hset : (d ++ g.drop k).set k y = (d ++ [y]) ++ g.drop (k + 1) := by
   rw [List.set_append_right _ _ (by omega), hd, Nat.sub_self, List.drop_eq_getElem_cons hk, List.set_cons_zero, List.append_assoc]; rfl
  rw [hset] at g1
  exact ⟨J2, M2, _, w2, X2, d ++ [y], n2, by simp, by simp [hd], g1, rfl, by rw [<- List.append_assoc]; exact g3, by omega, by push_cast; omega, g6, g7.trans u4⟩
 ·rintro s ⟨J1, M1, S1, w1, X1, d, n1, rfl, hd, h1, rfl, I1, u1, u2, u3, u4⟩
  simp (maxSteps := 2000000) -implicitDefEqProofs (disch := (first | omega | rfl | assumption | (simp only [rsD]; first | omega | assumption))) only [frames_Frames__Turn_L2, Nat.reduceAdd, Nat.reduceMul, Nat.reduceLT, Int.reduceToNat, Int.reduceAdd, Int.reduceSub, Int.reduceMul, rsU, rsC]
  rw [List.drop_length, List.append_nil] at h1
  exact Ok_some.2 ⟨J1, M1, _, w1, X1, d, n1, rfl, h1, rfl, hd, by rw [List.flatten_append]; simpa using I1, u1, u2, u3, u4⟩
theorem fturn_ok {J : AH O} {M : MemS} {S : FrmS} {w : List Int} {X : List Nat} (h : FrmAt J fb mb M S w X) (hid : S.id = id) (hI : I [] 0 J M X) (hV : V = S.L.flatten) (hn : S.L.length <= 100) :
  Ok (frames_Frames__Turn [.p (some (.n fb, 0)), .fn (some f)] J) fun q => q.1 = .tup [] /\ ∃ n M' S' w' X', FrmAt q.2 fb mb M' S' w' X' /\ S'.id = S.id /\ S'.room = S.room /\ S'.L.map List.length = S.L.map List.length /\ I S'.L.flatten n q.2 M' X' /\ 0 <= n /\ n <= 2 * V.length + 2 * S.L.length := by
 have hb := h.b
 simp only [FrmS.cells] at hb
 have hlt := h.lt
 have hltX : ∀ q ∈ X, q < J.next := fun q hq => h.mi.lt q (by simp [hq])
 have hd : decide ((S.L.length : Int) > 0) = !S.L.isEmpty := by
  cases S.L with
  | nil => rfl
  | cons a l => simp
 simp (maxSteps := 2000000) -implicitDefEqProofs (disch := (first | omega | rfl | assumption | (simp only [rsD]; first | omega | assumption))) only [frames_Frames__Turn, frames_Frames__Turn_c, hb, hd, Nat.reduceAdd, Nat.reduceMul, Nat.reduceLT, Int.reduceToNat, Int.reduceAdd, Int.reduceSub, Int.reduceMul, rsU, rsC]
 generalize hJ : AH.put _ J.next _ = J1
 have n1 : J1.next = J.next + 1 := by rw [<- hJ]; rfl
 have b1 : J1.blk J.next = some (.cells true T_frames_top [.i .i64 (fbase S.L), .i .i64 (fslots S.L)]) := by rw [<- hJ]; exact s_bs
 have E1 : Ext J J1 := by rw [<- hJ]; exact (ext_of (by simp only [put_next, bump_next, kill_next]; omega) (fun b hb => by simp -implicitDefEqProofs (disch := (first | omega | rfl | assumption | (simp only [rsD]; first | omega | assumption))) only [s_bn, s_kn, bump_blk, s_ext]))
 clear hJ
 have h1 : FrmAt J1 fb mb M S w (J.next :: X) := h.new E1 (Nat.le_refl _) (by omega)
 have I1 := T.fr hI h (h1.mono (by simp +contextual)) hid hid (by rw [<- hid]; exact Wrt.refl h.now) ⟨E1.next, fun q hq => E1.blk q (hltX q hq)⟩ (by decide) (by decide)
 rw [Int.add_zero, Int.add_zero] at I1
 have hnX : J.next ∉ X := fun hm => by have := hltX _ hm; omega
 refine Ok.step (Q := fun s => ∃ J' M' S' w' X' n, s = ([], J') /\ FrmAt J' fb mb M' S' w' (J.next :: X') /\ S'.id = S.id /\ S'.room = S.room /\ S'.L.map List.length = S.L.map List.length /\ I S'.L.flatten n J' M' X' /\ 0 <= n /\ n <= 2 * V.length + 2 * S.L.length) ?_ ?_
 ·refine Ok.count S.L.length (fun j s => ∃ J' M' S' w' X' n pre, s = ([.b (!(S.L.drop j).isEmpty)], J') /\ FrmAt J' fb mb M' S' w' (J.next :: X') /\ S' = { S with L := pre ++ S.L.drop j } /\ pre.map List.length = (S.L.take j).map List.length /\ I pre.flatten n J' M' X' /\ 0 <= n /\ n <= 2 * pre.flatten.length + 2 * j /\ J.next ∉ X' /\ J'.blk J.next = some (.cells true T_frames_top [.i .i64 (fbase (S.L.drop j)), .i .i64 (fslots (S.L.drop j))])) ?_ ?_ ⟨J1, M, S, w, X, 0, [], rfl, h1, rfl, rfl, I1, by decide, by simp, hnX, b1⟩
  ·rintro j s hj ⟨J2, M2, S2, w2, X2, n2, pre, rfl, h2, rfl, hm, I2, u1, u2, u3, u4⟩
   have hdr : S.L.drop j = S.L[j] :: S.L.drop (j + 1) := List.drop_eq_getElem_cons hj
   generalize hg : S.L[j] = g at hdr
   have hgx : S.L[j]? = some g := by rw [List.getElem?_eq_getElem hj, hg]
   have hgl : g.length <= 256 := h.len g (List.mem_of_getElem? hgx)
   rw [hdr] at h2 u4
   have e0 : (!(S.L.drop j).isEmpty) = true := by rw [hdr]; rfl
   have hfl : ∀ A B : List (List Int), A.map List.length = B.map List.length -> A.flatten.length = B.flatten.length := fun A B e => by
    rw [List.length_flatten, List.length_flatten, e]
   have hVd : V = (S.L.take j).flatten ++ (g ++ (S.L.drop (j + 1)).flatten) := by
    rw [hV]
    conv => lhs; rw [<- List.take_append_drop j S.L, hdr]
    simp
   have hVl := congrArg List.length hVd
   simp only [List.length_append] at hVl
   have hpl := hfl _ _ hm
   simp only [fbase, fslots] at u4
   simp (maxSteps := 2000000) -implicitDefEqProofs (disch := (first | omega | rfl | assumption | (simp only [rsD]; first | omega | assumption))) only [frames_Frames__Turn_L1, e0, u4, Nat.reduceAdd, Nat.reduceMul, Nat.reduceLT, Int.reduceToNat, Int.reduceAdd, Int.reduceSub, Int.reduceMul, rsU, rsC]
   refine Ok.step (fframe_turn T (n := n2) h2 hid I2 u3 rfl (fun k x hk => ?_) ⟨u1, by omega⟩ u4 (J0 := J) rfl) ?_
   ·have hkl := (List.getElem?_eq_some_iff.1 hk).1
    rw [hVd, hpl, List.getElem?_append_right (by omega), Nat.add_sub_cancel_left, List.getElem?_append_left hkl]; exact hk
   ·rintro _ ⟨J3, M3, S3, w3, X3, g', n3, rfl, h3, rfl, hg', I3, v1, v2, v3, v4⟩
    have t3 : J3.blk J.next = _ := v4.trans u4
    have hfl2 : (pre ++ [g']).flatten.length = pre.flatten.length + g.length := by simp [hg']
    have cm := T.calm I3 (by omega) (by omega) (by rw [hfl2, hVl]; omega)
    simp (maxSteps := 2000000) -implicitDefEqProofs (disch := (first | omega | rfl | assumption | (simp only [rsD]; first | omega | assumption))) only [t3, Nat.reduceAdd, Nat.reduceMul, Nat.reduceLT, Int.reduceToNat, Int.reduceAdd, Int.reduceSub, Int.reduceMul, rsU, rsC]
    refine Ok.step (funder_ok h3 ⟨by omega, by omega⟩ (pre := pre) (f := g') (r := S.L.drop (j + 1)) rfl (by omega)) fun q ⟨g1, M4, dr, g2, g3, g4, g5, g6⟩ => ?_
    obtain ⟨q, J4⟩ := q
    simp only at g1 g2 g6
    subst g1
    have t4 : J4.blk J.next = _ := (g6.blk J.next (by simp)).trans t3
    simp (maxSteps := 2000000) -implicitDefEqProofs (disch := (first | omega | rfl | assumption | (simp only [rsD]; first | omega | assumption))) only [t4, Nat.reduceAdd, Nat.reduceMul, Nat.reduceLT, Int.reduceToNat, Int.reduceAdd, Int.reduceSub, Int.reduceMul, rsU, rsC]
    have I4 := T.fr I3 (h3.mono (by simp +contextual)) (g2.mono (by simp +contextual)) hid hid (by rw [<- hid]; exact g3) (g6.mono (by simp +contextual)) (by omega) (by decide)
    have c5 : Chg [J.next] J4 (J4.put J.next (.cells true T_frames_top [.i .i64 (fbase (S.L.drop (j + 1))), .i .i64 (fslots (S.L.drop (j + 1)))])) := ⟨by simp, fun q hq hmm => s_bn (by simpa using hmm)⟩
    have h5 : FrmAt (J4.put J.next (.cells true T_frames_top [.i .i64 (fbase (S.L.drop (j + 1))), .i .i64 (fslots (S.L.drop (j + 1)))])) fb mb M4 { S with L := pre ++ g' :: S.L.drop (j + 1) } w3 (J.next :: X3) := { g2 with mi := g2.mi.turn c5 (fun b hb => .inl (by simp at hb; simp [hb])) (fun b hb => .inl hb), b := (s_bn (fun e => g2.nx (by simp [e]))).trans g2.b }
    have I5 := T.fr I4 (g2.mono (by simp +contextual)) (h5.mono (by simp +contextual)) hid hid (by rw [<- hid]; exact Wrt.refl g2.now) (show Keep X3 J4 (J4.put J.next (.cells true T_frames_top [.i .i64 (fbase (S.L.drop (j + 1))), .i .i64 (fslots (S.L.drop (j + 1)))])) from ⟨by simp, fun q hq => s_bn fun e => v3 (e ▸ hq)⟩) (by decide) (by decide)
    refine Ok_some.2 ⟨_, M4, _, w3, X3, _, pre ++ [g'], rfl, h5, by rw [List.append_assoc]; rfl, ?_, I5, by omega, ?_, v3, s_bs⟩
    ·rw [take_snoc hgx, List.map_append, List.map_append, hm]; simp [hg']
    ·rw [hfl2]; push_cast; omega
  ·rintro s ⟨J2, M2, S2, w2, X2, n2, pre, rfl, h2, rfl, hm, I2, u1, u2, u3, u4⟩
   rw [List.drop_length, List.append_nil] at h2
   rw [List.take_length] at hm
   have hpl : pre.flatten.length = V.length := by rw [hV, List.length_flatten, List.length_flatten, hm]
   have e0 : (!(S.L.drop S.L.length).isEmpty) = false := by rw [List.drop_length]; rfl
   simp (maxSteps := 2000000) -implicitDefEqProofs (disch := (first | omega | rfl | assumption | (simp only [rsD]; first | omega | assumption))) only [frames_Frames__Turn_L1, e0, Nat.reduceAdd, Nat.reduceMul, Nat.reduceLT, Int.reduceToNat, Int.reduceAdd, Int.reduceSub, Int.reduceMul, rsU, rsC]
   exact Ok_some.2 ⟨J2, M2, _, w2, X2, n2, rfl, h2, rfl, rfl, hm, I2, u1, by omega⟩
 ·rintro _ ⟨J2, M2, S2, w2, X2, n2, rfl, h2, e1, e2, e3, I2, u1, u2⟩
  simp (maxSteps := 2000000) -implicitDefEqProofs (disch := (first | omega | rfl | assumption | (simp only [rsD]; first | omega | assumption))) only [Nat.reduceAdd, Nat.reduceMul, Nat.reduceLT, Int.reduceToNat, Int.reduceAdd, Int.reduceSub, Int.reduceMul, rsU, rsC]
  exact Ok_some.2 ⟨rfl, n2, M2, S2, w2, X2, h2.mono (by simp +contextual), e1, e2, e3, I2, u1, u2⟩
end
end Go.Abs.Tryz
