/-
  Objects are made in a new store, one behind the other, beside the document's list. No conditions.
-/
import Derived.Test.YtncohicmiihjiaaGreatR16
import Derived.Test.YtncohicmiihjiaaGreatR7
import Derived.Test.YtncohicmiihjiaaGreatM20
import Derived.Test.YtncohicmiihjiaaGreatAbsIn
set_option linter.unusedVariables false
set_option linter.unusedSimpArgs false
set_option linter.constructorNameAsVariable false
set_option linter.unusedSimpArgs false
set_option linter.unusedVariables false
set_option linter.unusedSectionVars false
set_option maxHeartbeats 2000000
namespace Go.Abs.Tryz
open Go Go.Abs
variable {O : Type}
theorem and15 {t : Int} (h : -9223372036854775808 <= t /\ t <= 9223372036854775807) : ibits .and .i64 t 15 = (((t % 16).toNat : Nat) : Int) := by
 show IntKind.i64.wrap (((BitVec.ofInt 64 t &&& BitVec.ofInt 64 15).toNat : Nat) : Int) = _
 rw [BitVec.toNat_and, bv_nat (x := 15) (by decide) (by decide), BitVec.toNat_ofInt, show (15 : Int).toNat = 2 ^ 4 - 1 from rfl, Nat.and_two_pow_sub_one_eq_mod]
 have h1 : 0 <= t % ((2 ^ 64 : Nat) : Int) := Int.emod_nonneg _ (by decide)
 have h2 : (((t % ((2 ^ 64 : Nat) : Int)).toNat % 2 ^ 4 : Nat) : Int) = t % 16 := by
  rw [Int.natCast_emod, Int.toNat_of_nonneg h1]
  have : ((2 ^ 64 : Nat) : Int) = 18446744073709551616 := by decide
  have : ((2 ^ 4 : Nat) : Int) = 16 := by decide
  omega
 rw [h2, Int.toNat_of_nonneg (by omega)]
 exact s_i64 (by omega)
set_option maxRecDepth 100000 in
theorem and31 : ∀ s : Fin 256, ibits .and .u8 (s.1 : Int) 31 = ((s.1 % 32 : Nat) : Int) := by decide
def lgN (Ds : List DO) : Nat := (Ds.filter fun d => d.h.l).length
theorem lgN_le (Ds : List DO) : lgN Ds <= Ds.length := List.length_filter_le _ _
def DO.ov (d : DO) : OV := ⟨d.h, d.P, d.R, d.ref⟩
structure MkE (J : AH O) (sb nb lb pb mb : Nat) (M : MemS) (S : PoolS) (w : List Int) (L : LarS) (T : StoS) (X : List Nat) (Ds : List DO) (N : Nat) (c : Int) : Prop where
 a : StoAt J sb nb lb pb mb M S w L T X []
 ok : ∀ d ∈ Ds, d.ok /\ d.P.length <= 15 /\ d.R.length <= 15
 sm : ∀ d ∈ Ds, d.h.l = false -> d.at_ + d.n <= T.top
 ap : ∀ (i j : Nat) (a b : DO), i < j -> Ds[i]? = some a -> Ds[j]? = some b -> a.h.l = b.h.l -> if a.h.l then a.at_ ≠ b.at_ else a.at_ + a.n <= b.at_
 s0 : ∀ d ∈ Ds, d.h.l = false -> ∀ k, k < d.n -> T.ws.getD (d.at_ + k) 0 = d.ws.getD k 0
 l0 : ∀ d ∈ Ds, d.h.l = true -> L.ob d.at_ = some d.ws
 free : S.free = []
 len : S.E.length = lgN Ds
 room : S.room <= 80
 few : M.few c (2 + Ds.length)
 small : T.small = 8
 ws : T.ws.length = 8 * N
 top : T.top = sumTo (smN Ds) Ds.length
 topb : T.top <= 8 * Ds.length
 old : T.old = [.i .i64 0, .i .i64 0, .b false]
 ep : L.ep = 0
theorem MkE.new {J : AH O} {sb nb lb pb mb : Nat} {M : MemS} {X : List Nat} {N : Nat} (h : StoAt J sb nb lb pb mb M ⟨1, 5, 0, [], [], 0⟩ [] ⟨[], [], 0, 0, 0, fun _ => none⟩ ⟨0, List.replicate (8 * N) 0, 0, [.i .i64 0, .i .i64 0, .b false], 8⟩ X []) (hc : M.count = 2) (hr : M.met.r = 0) (hw : M.met.w = 0) : MkE J sb nb lb pb mb M ⟨1, 5, 0, [], [], 0⟩ [] ⟨[], [], 0, 0, 0, fun _ => none⟩ ⟨0, List.replicate (8 * N) 0, 0, [.i .i64 0, .i .i64 0, .b false], 8⟩ X [] N 0 :=
 ⟨h, by simp, by simp, by simp, by simp, by simp, rfl, rfl, by decide, ⟨by rw [hr, hw]; decide, by rw [hc]; decide⟩, rfl, List.length_replicate, rfl, Nat.zero_le _, rfl, rfl⟩
theorem MkE.turn {J J' : AH O} {sb nb lb pb mb : Nat} {M : MemS} {S : PoolS} {w : List Int} {L : LarS} {T : StoS} {X Z K : List Nat} {Ds : List DO} {N : Nat} {c : Int} (m : MkE J sb nb lb pb mb M S w L T X Ds N c) (hc : Chg K J J') (hl : ∀ b ∈ K, b ∈ X ∨ J.next <= b) (hZ : ∀ b ∈ Z, b ∈ X ∨ (J.next <= b /\ b < J'.next)) : MkE J' sb nb lb pb mb M S w L T Z Ds N c := { m with a := m.a.turn hc hl hZ }
theorem smN_app {Ds : List DO} {d : DO} {i : Nat} (h : i < Ds.length) : smN (Ds ++ [d]) i = smN Ds i := by
 unfold smN; rw [List.getElem?_append_left h]
theorem sum_app (Ds : List DO) (d : DO) : sumTo (smN (Ds ++ [d])) (Ds ++ [d]).length = sumTo (smN Ds) Ds.length + if d.h.l then 0 else d.n := by
 rw [List.length_append]
 show sumTo _ Ds.length + smN (Ds ++ [d]) Ds.length = _
 rw [sumTo_congr (g := smN Ds) fun j hj => smN_app hj]
 congr 1
 unfold smN
 rw [List.getElem?_append_right (Nat.le_refl _), Nat.sub_self]
 rfl
theorem lgN_app (Ds : List DO) (d : DO) : lgN (Ds ++ [d]) = lgN Ds + if d.h.l then 1 else 0 := by
 unfold lgN
 rw [List.filter_append, List.length_append]
 cases h : d.h.l <;> simp [h]
def newDO (p r s : Nat) (at_ : Nat) : DO := ⟨newHd p r s 8, List.replicate p 0, List.replicate r 0, at_⟩
theorem newDO_n (p r s a : Nat) : (newDO p r s a).n = 1 + p + r := by simp [newDO, DO.n]
theorem newDO_ws (p r s a : Nat) : (newDO p r s a).ws = ((newHd p r s 8).word : Int) :: List.replicate (p + r) 0 := by
 simp [newDO, DO.ws]
theorem newDO_lg {p r s a : Nat} : (newDO p r s a).h.l = decide (8 < 1 + p + r) := by
 show decide (((1 + p + r : Nat) : Int) > 8) = _
 exact decide_eq_decide.2 (by omega)
theorem getD_rep {n k : Nat} : (List.replicate n (0 : Int)).getD k 0 = 0 := by
 rw [List.getD_eq_getElem?_getD, List.getElem?_replicate]; split <;> rfl
section
variable {J : AH O} {sb nb lb pb mb : Nat} {M : MemS} {S : PoolS} {w : List Int} {L : LarS} {T : StoS} {X : List Nat} {Ds : List DO} {N : Nat} {c : Int} (m : MkE J sb nb lb pb mb M S w L T X Ds N c)
include m
theorem MkE.has {d : DO} (hd : d ∈ Ds) : d.ob.has T L d.h := by
 obtain ⟨ok, _, _⟩ := m.ok d hd
 refine ⟨?_, by show d.n = _; rw [ok.p, ok.r]; rfl, ?_, ok.h⟩
 ·unfold Ob.is
  show if d.h.l then _ else _
  cases hl : d.h.l with
  | true => rw [if_pos rfl]; exact ⟨d.ws, m.l0 d hd hl, d.wsn⟩
  | false => simp only [Bool.false_eq_true, if_false]; exact m.sm d hd hl
 ·unfold obW
  show (if d.h.l then ((L.ob d.at_).getD []).getD 0 0 else T.ws.getD (d.at_ + 0) 0) = _
  cases hl : d.h.l with
  | true => rw [if_pos rfl, m.l0 d hd hl]; rfl
  | false => simp only [Bool.false_eq_true, if_false]; exact m.s0 d hd hl 0 (by unfold DO.n; omega)
theorem mke_make (hz : ∀ j, T.top <= j -> T.ws.getD j 0 = 0) (hk : Ds.length < N) (hN : N <= 20) (hc : c <= 10000000) {p r s : Nat} (hp : p <= 15) (hr : r <= 15) (hs : s < 32) :
  Ok (qkp [.p (some (.n sb, 0)), .agg [.i .i64 (p : Int), .i .i64 (r : Int)], .i .i64 (s : Int)] J) fun q => ∃ a, q.1 = .tup [.i .u64 (newDO p r s a).ref, .i .i64 0] /\ (newDO p r s a).ref = (if 8 < 1 + p + r then 2 * ((lgN Ds : Int) + 1) else 2 * (T.top : Int) + 1) /\ ∃ M' S' w' L' T', MkE q.2 sb nb lb pb mb M' S' w' L' T' X (Ds ++ [newDO p r s a]) N (c + 30) /\ (∀ j, T'.top <= j -> T'.ws.getD j 0 = 0) /\ Keep X J q.2 := by
 have hf : M.far 2000 := m.few.far m.a.l.p.mi.ok (by omega)
 have hl := m.len
 have hlg := lgN_le Ds
 have htop := m.topb
 have hws := m.ws
 have okn : ∀ a, (newDO p r s a).ok /\ (newDO p r s a).P.length <= 15 /\ (newDO p r s a).R.length <= 15 := fun a => ⟨⟨newHd_ok (by omega) (by omega) hs, by simp [newDO, newHd], by simp [newDO, newHd]⟩, by simp [newDO]; omega, by simp [newDO]; omega⟩
 by_cases hsm : 1 + p + r <= 8
 ·have lf : ∀ a, (newDO p r s a).h.l = false := fun a => by rw [newDO_lg]; exact decide_eq_false (by omega)
  refine (smake_near m.a (hf.less (by decide)) (by omega) (by omega) hs (by rw [m.small]; omega) (by omega) (by omega)).mono fun q ⟨g1, M', g2, g3, g4⟩ => ?_
  rw [m.small] at g2
  have hT := g2.top
  simp only [List.length_set] at hT
  have nn := newDO_n p r s T.top
  have rf : (newDO p r s T.top).ref = rsm T.top := by unfold DO.ref DO.to; rw [lf]; rfl
  refine ⟨T.top, by rw [g1, rf], by rw [rf, if_neg (by omega)]; unfold rsm; omega, M', S, w, L, _, ⟨g2, fun d hd => ?_, fun d hd hdl => ?_, fun i j a b hij hi hj hab => ?_, fun d hd hdl k hk => ?_, fun d hd hdl => ?_, m.free, by rw [lgN_app, lf]; exact hl, m.room, (g3.few m.few).le (by omega) (by simp; omega), rfl, by simpa using hws, ?_, by simp; omega, m.old, m.ep⟩, fun j hj => ?_, g4⟩
  ·rcases List.mem_append.1 hd with hd | hd
   ·exact m.ok d hd
   ·simp at hd; subst hd; exact okn _
  ·simp only
   rcases List.mem_append.1 hd with hd | hd
   ·have := m.sm d hd hdl; omega
   ·simp at hd; subst hd; rw [nn]; exact Nat.le_refl _
  ·by_cases hjl : j < Ds.length
   ·rw [List.getElem?_append_left hjl] at hj
    rw [List.getElem?_append_left (by omega)] at hi
    exact m.ap i j a b hij hi hj hab
   ·have hj2 := (List.getElem?_eq_some_iff.1 hj).1
    simp at hj2
    have : j = Ds.length := by omega
    subst this
    rw [List.getElem?_append_left hij] at hi
    simp at hj
    subst hj
    rw [lf] at hab
    rw [hab]
    simp only [Bool.false_eq_true, if_false]
    exact m.sm a (List.mem_of_getElem? hi) hab
  ·simp only
   rcases List.mem_append.1 hd with hd | hd
   ·have := m.sm d hd hdl
    rw [getD_set_ne (by omega)]
    exact m.s0 d hd hdl k hk
   ·simp at hd; subst hd
    rw [newDO_ws]
    show (T.ws.set T.top _).getD (T.top + k) 0 = _
    cases k with
    | zero => rw [Nat.add_zero, getD_set_eq (by omega)]; rfl
    | succ k => rw [getD_set_ne (by omega), hz _ (by omega), List.getD_cons_succ, getD_rep]
  ·rcases List.mem_append.1 hd with hd | hd
   ·exact m.l0 d hd hdl
   ·simp at hd; subst hd; rw [lf] at hdl; cases hdl
  ·simp only; rw [sum_app, lf, nn, <- m.top]; rfl
  ·simp only at hj ⊢
   rw [getD_set_ne (by omega), hz _ (by omega)]
 ·have lt : ∀ a, (newDO p r s a).h.l = true := fun a => by rw [newDO_lg]; exact decide_eq_true (by omega)
  have hcnt : M.count < 262144 := by have := m.few.2; omega
  have hm80 : S.more <= 80 := by have := m.room; unfold PoolS.more; split <;> omega
  refine (smake_farE m.a hf (by omega) (by omega) hs (by rw [m.small]; omega) hcnt (by omega)).mono fun q ⟨g1, g0, M', S', w', L', g2, ge, g3, g4, g5, g6⟩ => ?_
  rw [m.small] at g3
  obtain ⟨q1, q2, q3, q4⟩ := took_more m.free m.room (by omega) g4
  have t1 : S.took.1 = lgN Ds := by unfold PoolS.took; rw [m.free]; exact hl
  have g0' : ∀ d ∈ Ds, d.h.l = true -> d.at_ ≠ S.took.1 := fun d hd hdl e => by
   have := m.l0 d hd hdl
   rw [e, g0] at this; cases this
  have rf : (newDO p r s S.took.1).ref = rlg S.took.1 := by unfold DO.ref DO.to; rw [lt]; rfl
  refine ⟨S.took.1, by rw [g1, rf], by rw [rf, if_pos (by omega), t1]; unfold rlg; omega, M', S', w', L', T, ⟨g2, fun d hd => ?_, fun d hd hdl => ?_, fun i j a b hij hi hj hab => ?_, fun d hd hdl k hk => ?_, fun d hd hdl => ?_, q2, by rw [lgN_app, lt, q3, hl]; rfl, q4, (g5.few m.few).le (by omega) (by simp; omega), m.small, m.ws, ?_, by simp; omega, m.old, ge.1.trans m.ep⟩, hz, g6⟩
  ·rcases List.mem_append.1 hd with hd | hd
   ·exact m.ok d hd
   ·simp at hd; subst hd; exact okn _
  ·rcases List.mem_append.1 hd with hd | hd
   ·exact m.sm d hd hdl
   ·simp at hd; subst hd; rw [lt] at hdl; cases hdl
  ·by_cases hjl : j < Ds.length
   ·rw [List.getElem?_append_left hjl] at hj
    rw [List.getElem?_append_left (by omega)] at hi
    exact m.ap i j a b hij hi hj hab
   ·have hj2 := (List.getElem?_eq_some_iff.1 hj).1
    simp at hj2
    have : j = Ds.length := by omega
    subst this
    rw [List.getElem?_append_left hij] at hi
    simp at hj
    subst hj
    rw [lt] at hab
    rw [hab, if_pos rfl]
    exact g0' a (List.mem_of_getElem? hi) hab
  ·rcases List.mem_append.1 hd with hd | hd
   ·exact m.s0 d hd hdl k hk
   ·simp at hd; subst hd; rw [lt] at hdl; cases hdl
  ·rw [g3]
   simp only
   rcases List.mem_append.1 hd with hd | hd
   ·rw [if_neg (g0' d hd hdl)]; exact m.l0 d hd hdl
   ·simp at hd; subst hd
    rw [newDO_ws]
    show (if S.took.1 = S.took.1 then _ else _) = _
    rw [if_pos rfl, show 1 + p + r = (p + r) + 1 by omega, List.replicate_succ]
    rfl
  ·rw [sum_app, lt, m.top]; rfl
def DO.setR (d : DO) (k : Nat) (x : Int) : DO := { d with R := d.R.set k x }
omit m in
theorem DO.setR_n (d : DO) (k : Nat) (x : Int) : (d.setR k x).n = d.n := by simp [DO.setR, DO.n]
omit m in
theorem DO.setR_ws (d : DO) (k : Nat) (x : Int) : (d.setR k x).ws = d.ws.set (1 + d.P.length + k) x := by
 unfold DO.ws DO.setR
 simp only
 rw [show 1 + d.P.length + k = (d.P.length + k) + 1 by omega, List.set_cons_succ, List.set_append_right _ _ (by omega), show d.P.length + k - d.P.length = k by omega]
theorem MkE.setr {J' : AH O} {M' : MemS} {i : Nat} {d : DO} (hd : Ds[i]? = some d) {k : Nat} (hk : k < d.R.length) (x : Int) (h : StoAt J' sb nb lb pb mb M' S w (setL L d.ob (1 + d.P.length + k) x) (setT T d.ob (1 + d.P.length + k) x) X []) {c' : Int} (hf : M'.few c' (2 + Ds.length)) :
  MkE J' sb nb lb pb mb M' S w (setL L d.ob (1 + d.P.length + k) x) (setT T d.ob (1 + d.P.length + k) x) X (Ds.set i (d.setR k x)) N c' := by
 have hi := (List.getElem?_eq_some_iff.1 hd).1
 have hm := List.mem_of_getElem? hd
 have tt : (setT T d.ob (1 + d.P.length + k) x).top = T.top := by unfold setT; split <;> rfl
 have ts : (setT T d.ob (1 + d.P.length + k) x).small = T.small := by unfold setT; split <;> rfl
 have to : (setT T d.ob (1 + d.P.length + k) x).old = T.old := by unfold setT; split <;> rfl
 have tw : (setT T d.ob (1 + d.P.length + k) x).ws.length = T.ws.length := by unfold setT; split <;> simp
 have le : (setL L d.ob (1 + d.P.length + k) x).ep = L.ep := by unfold setL; split <;> rfl
 have get : ∀ (j : Nat) (b : DO), (Ds.set i (d.setR k x))[j]? = some b -> ∃ b0, Ds[j]? = some b0 /\ b.h = b0.h /\ b.at_ = b0.at_ /\ b.n = b0.n /\ (j = i -> b0 = d /\ b = d.setR k x) /\ (j ≠ i -> b = b0) := fun j b hb => by
  rw [List.getElem?_set] at hb
  by_cases c : i = j
  ·subst c
   rw [if_pos rfl, if_pos hi] at hb
   cases hb
   exact ⟨d, hd, rfl, rfl, d.setR_n k x, fun _ => ⟨rfl, rfl⟩, fun h => absurd rfl h⟩
  ·rw [if_neg c] at hb
   exact ⟨b, hb, rfl, rfl, rfl, fun h => absurd h.symm c, fun _ => rfl⟩
 have apart : ∀ (j : Nat) (b : DO), Ds[j]? = some b -> j ≠ i -> b.h.l = d.h.l -> if b.h.l then b.at_ ≠ d.at_ else b.at_ + b.n <= d.at_ ∨ d.at_ + d.n <= b.at_ := fun j b hb hj hl => by
  by_cases cc : j < i
  ·have := m.ap j i b d cc hb hd hl
   split at this
   ·next g => rw [if_pos g]; exact this
   ·next g => rw [if_neg g]; exact .inl this
  ·have := m.ap i j d b (by omega) hd hb hl.symm
   rw [<- hl] at this
   split at this
   ·next g => rw [if_pos g]; exact fun q => this q.symm
   ·next g => rw [if_neg g]; exact .inr this
 have mem : ∀ b ∈ Ds.set i (d.setR k x), ∃ j : Nat, (Ds.set i (d.setR k x))[j]? = some b := fun b hb => List.getElem?_of_mem hb
 have kn : 1 + d.P.length + k < d.n := by unfold DO.n; omega
 refine ⟨h, fun b hb => ?_, fun b hb hbl => ?_, fun u v a b huv hu hv hab => ?_, fun b hb hbl q hq => ?_, fun b hb hbl => ?_, m.free, ?_, m.room, by rw [List.length_set]; exact hf, ts.trans m.small, by rw [tw]; exact m.ws, ?_, by rw [tt, List.length_set]; exact m.topb, to.trans m.old, le.trans m.ep⟩
 ·obtain ⟨j, hj⟩ := mem b hb
  obtain ⟨b0, h1, h2, h3, h4, h5, h6⟩ := get j b hj
  by_cases c : j = i
  ·obtain ⟨rfl, rfl⟩ := h5 c
   obtain ⟨q1, q2, q3⟩ := m.ok b0 hm
   exact ⟨⟨q1.h, q1.p, by rw [show (b0.setR k x).h = b0.h from rfl, q1.r]; simp [DO.setR]⟩, q2, by simpa [DO.setR] using q3⟩
  ·rw [h6 c]; exact m.ok b0 (List.mem_of_getElem? h1)
 ·obtain ⟨j, hj⟩ := mem b hb
  obtain ⟨b0, h1, h2, h3, h4, h5, h6⟩ := get j b hj
  rw [tt, h3, h4]
  exact m.sm b0 (List.mem_of_getElem? h1) (by rw [<- h2]; exact hbl)
 ·obtain ⟨a0, a1, a2, a3, a4, _⟩ := get u a hu
  obtain ⟨b0, b1, b2, b3, b4, _⟩ := get v b hv
  rw [a2, a3, a4, b3]
  exact m.ap u v a0 b0 huv a1 b1 (by rw [<- a2, <- b2]; exact hab)
 ·obtain ⟨j, hj⟩ := mem b hb
  obtain ⟨b0, h1, h2, h3, h4, h5, h6⟩ := get j b hj
  have hb0l : b0.h.l = false := by rw [<- h2]; exact hbl
  have old := m.s0 b0 (List.mem_of_getElem? h1) hb0l
  have st := m.sm b0 (List.mem_of_getElem? h1) hb0l
  have tp := m.a.top
  by_cases c : j = i
  ·obtain ⟨rfl, rfl⟩ := h5 c
   have e1 : (setT T b0.ob (1 + b0.P.length + k) x).ws = T.ws.set (b0.at_ + (1 + b0.P.length + k)) x := by
    unfold setT
    show (if b0.h.l then T else _).ws = _
    rw [hb0l]; rfl
   rw [e1, DO.setR_ws]
   show (T.ws.set _ x).getD (b0.at_ + q) 0 = _
   rw [DO.setR_n] at hq
   by_cases cq : q = 1 + b0.P.length + k
   ·subst cq
    rw [getD_set_eq (by omega), getD_set_eq (by rw [b0.wsn]; exact kn)]
   ·rw [getD_set_ne (by omega), getD_set_ne (fun e => cq e.symm)]
    exact old q hq
  ·rw [h6 c] at hq ⊢
   by_cases cl : d.h.l = true
   ·have e1 : setT T d.ob (1 + d.P.length + k) x = T := by
     unfold setT
     show (if d.h.l then T else _) = _
     rw [cl]; rfl
    rw [e1]; exact old q hq
   ·have cl : d.h.l = false := by simpa using cl
    have e1 : (setT T d.ob (1 + d.P.length + k) x).ws = T.ws.set (d.at_ + (1 + d.P.length + k)) x := by
     unfold setT
     show (if d.h.l then T else _).ws = _
     rw [cl]; rfl
    have := apart j b0 h1 c (by rw [hb0l, cl])
    rw [hb0l] at this
    simp only [Bool.false_eq_true, if_false] at this
    rw [e1, getD_set_ne (by omega)]
    exact old q hq
 ·obtain ⟨j, hj⟩ := mem b hb
  obtain ⟨b0, h1, h2, h3, h4, h5, h6⟩ := get j b hj
  have hb0l : b0.h.l = true := by rw [<- h2]; exact hbl
  have old := m.l0 b0 (List.mem_of_getElem? h1) hb0l
  by_cases c : j = i
  ·obtain ⟨rfl, rfl⟩ := h5 c
   unfold setL
   show (if b0.h.l then _ else L).ob b0.at_ = _
   rw [hb0l, if_pos rfl]
   show (if b0.at_ = b0.at_ then _ else _) = _
   rw [if_pos rfl]
   show some (((L.ob b0.at_).getD []).set _ x) = _
   rw [old, DO.setR_ws]; rfl
  ·rw [h6 c]
   unfold setL
   show (if d.h.l then _ else L).ob b0.at_ = _
   by_cases cl : d.h.l = true
   ·rw [cl, if_pos rfl]
    have := apart j b0 h1 c (by rw [hb0l, cl])
    rw [hb0l, if_pos rfl] at this
    show (if b0.at_ = d.at_ then _ else _) = _
    rw [if_neg this]; exact old
   ·rw [if_neg cl]; exact old
 ·rw [m.len]
  unfold lgN
  rw [List.set_eq_take_append_cons_drop, if_pos hi]
  conv => lhs; rw [<- List.take_append_drop i Ds, List.drop_eq_getElem_cons hi]
  have hg : Ds[i] = d := by rw [List.getElem?_eq_getElem hi] at hd; exact Option.some.inj hd
  rw [hg, List.filter_append, List.filter_append, List.length_append, List.length_append, List.filter_cons, List.filter_cons]
  have hl2 : (d.setR k x).h.l = d.h.l := rfl
  rw [hl2]
  split <;> simp
 ·rw [tt, m.top, List.length_set]
  refine (sumTo_congr fun j hj => ?_).symm
  unfold smN
  cases hb : (Ds.set i (d.setR k x))[j]? with
  | none => rw [List.getElem?_eq_none_iff, List.length_set] at hb; omega
  | some b =>
   obtain ⟨b0, h1, h2, h3, h4, h5, h6⟩ := get j b hb
   rw [h1]
   simp only
   rw [h2, h4]
end
end Go.Abs.Tryz
set_option maxHeartbeats 4000000
namespace Go.Abs.Tryz
open Go Go.Abs
variable {O : Type}
structure MZ where
 p : Int
 r : Int
 s : Nat
 w : Int
structure MZ.ok (z : MZ) : Prop where
 p : -9223372036854775808 <= z.p /\ z.p <= 9223372036854775807
 r : -9223372036854775808 <= z.r /\ z.r <= 9223372036854775807
 s : z.s < 256
def Asked (J : AH O) (X : List Nat) (sa : SA) (zs : List MZ) : Prop := ∀ i z, zs[i]? = some z -> ∃ b o, SA.ref sa = some (b, o) /\ ∀ J' : AH O, Keep X J J' -> J'.ld b (o + i * 4) = some (.i .i64 z.p) /\ J'.ld b (o + i * 4 + 1) = some (.i .i64 z.r) /\ J'.ld b (o + i * 4 + 2) = some (.i .u8 (z.s : Int)) /\ J'.ld b (o + i * 4 + 3) = some (.i .u64 z.w)
theorem Asked.of {J J' : AH O} {X : List Nat} {sa : SA} {zs : List MZ} (h : Asked J X sa zs) (k : Keep X J J') : Asked J' X sa zs := fun i z hz => by
 obtain ⟨b, o, h1, h2⟩ := h i z hz
 exact ⟨b, o, h1, fun J'' k' => h2 J'' (k.trans k')⟩
def docS (N : Nat) (T : StoS) (S : PoolS) (Ds : List DO) : S16 := ⟨8 * N, (T.top : Int), (S.E.length : Int), Ds.map DO.ov⟩
def DocAt (J : AH O) (wb N : Nat) (T : StoS) (S : PoolS) (Ds : List DO) : Prop := ∃ a, J.blk wb = some (.cells true T_haymowref16_State [.i .i64 8, .i .i64 (8 * (N : Int)), .i .i64 (T.top : Int), .i .i64 (S.E.length : Int), .sl a Ds.length]) /\ OAt a (Ds.map DO.ov)
theorem setT_hz {J : AH O} {sb nb lb pb mb : Nat} {M : MemS} {S : PoolS} {w : List Int} {L : LarS} {T : StoS} {X : List Nat} {Ds : List DO} {N : Nat} {c : Int} (m : MkE J sb nb lb pb mb M S w L T X Ds N c) (hz : ∀ j, T.top <= j -> T.ws.getD j 0 = 0) {d : DO} (hd : d ∈ Ds) {k : Nat} (hk : k < d.n) (x : Int) : (setT T d.ob k x).top = T.top /\ ∀ j, (setT T d.ob k x).top <= j -> (setT T d.ob k x).ws.getD j 0 = 0 := by
 unfold setT
 show (if d.h.l then T else _).top = _ /\ ∀ j, (if d.h.l then T else _).top <= j -> (if d.h.l then T else _).ws.getD j 0 = 0
 cases hl : d.h.l with
 | true => exact ⟨rfl, hz⟩
 | false =>
  have := m.sm d hd hl
  refine ⟨rfl, fun j hj => ?_⟩
  show (T.ws.set (d.at_ + k) x).getD j 0 = 0
  have hj : T.top <= j := hj
  rw [getD_set_ne (by omega)]
  exact hz j hj
section
variable {J : AH O} {sb nb lb pb mb shb wb : Nat} {M : MemS} {S : PoolS} {w : List Int} {L : LarS} {T : StoS} {X : List Nat} {Ds : List DO} {N : Nat} {c : Int}
theorem raw_step (m : MkE J sb nb lb pb mb M S w L T (shb :: wb :: X) Ds N c) (hz : ∀ j, T.top <= j -> T.ws.getD j 0 = 0) (hc : c <= 9000000) (hN : Ds.length <= 20) {i n : Nat} {d : DO} (hd : Ds[i]? = some d) (hin : i < n) {k : Nat} (hk : k < d.R.length) {p : Int} (hsh : J.blk shb = some (.cells true T_api_Shape [.i .i64 p, .i .i64 (d.R.length : Int)])) (hdoc : DocAt J wb N T S Ds) {sa : SA} {zs : List MZ} (hA : Asked J X sa zs) (hn : zs.length = n) (hx : wb ∉ X /\ shb ≠ wb) {r22 r17 : List AV × AH O} (e22 : r22.2.next = shb) (e17 : r17.2.next = wb) :
  Ok (qm7 r22 (i : Int) (sa, n) qmt (some (.n sb, 0)) d.ref r17 qm3 ([.i .i64 (k : Int)], J)) fun q => ∃ J', q = .inl ([.i .i64 ((k + 1 : Nat) : Int)], J') /\ ∃ M' L' T' x, MkE J' sb nb lb pb mb M' S w L' T' (shb :: wb :: X) (Ds.set i (d.setR k x)) N (c + 6) /\ (∀ j, T'.top <= j -> T'.ws.getD j 0 = 0) /\ DocAt J' wb N T' S (Ds.set i (d.setR k x)) /\ Keep (shb :: X) J J' := by
 have hm := List.mem_of_getElem? hd
 have hil := (List.getElem?_eq_some_iff.1 hd).1
 obtain ⟨ok, okP, okR⟩ := m.ok d hm
 obtain ⟨a, hwb, hoa⟩ := hdoc
 obtain ⟨z, hzz⟩ : ∃ z, zs[i]? = some z := ⟨_, List.getElem?_eq_getElem (by omega)⟩
 obtain ⟨bb, o, href, hl⟩ := hA i z hzz
 have l0 := (hl J (Keep.refl X J)).2.2.2
 have hf : M.far 2000 := m.few.far m.a.l.p.mi.ok (by omega)
 have hi1 : decide ((i : Int) < (n : Int)) = true := decide_eq_true (by omega)
 simp (maxSteps := 2000000) -implicitDefEqProofs (disch := (first | omega | rfl | assumption | (simp only [rsD]; first | omega | assumption))) only [qm7, e22, e17, hsh, href, l0, hi1, Nat.reduceAdd, Nat.reduceMul, Nat.reduceLT, Int.reduceToNat, Int.reduceAdd, Int.reduceSub, Int.reduceMul, rsU, rsC]
 refine Ok.step (ssetraw_ok m.a hf (m.has hm) (k : Int) (IntKind.u64.wrap (z.w + k))) fun q ⟨g1, M', g2, g3, _, g4⟩ => ?_
 obtain ⟨q, J1⟩ := q
 have hkr : (0 : Int) <= k /\ (k : Int) < d.h.r := by rw [ok.r]; omega
 simp only [if_pos hkr, Int.toNat_natCast] at g1 g2 g4
 subst g1
 have z0 : ((0 : Int) != 0) = false := rfl
 have kX : Keep X J J1 := g4.tail.tail
 have l1 := (hl J1 kX).2.2.2
 have hwb1 := (g4.blk wb (by simp)).trans hwb
 simp (maxSteps := 2000000) -implicitDefEqProofs (disch := (first | omega | rfl | assumption | (simp only [rsD]; first | omega | assumption))) only [z0, hwb1, l1, e17, Nat.reduceAdd, Nat.reduceMul, Nat.reduceLT, Int.reduceToNat, Int.reduceAdd, Int.reduceSub, Int.reduceMul, rsU, rsC]
 have hoi : (Ds.map DO.ov)[i]? = some d.ov := by rw [List.getElem?_map, hd]; rfl
 have sr := rsetraw_ok (J := J1) (s := docS N T S Ds) (a := a) hoa (by simp [docS]; omega) hoi (by show d.R.length <= 1000; omega) (k := k) hk (IntKind.u64.wrap (z.w + k))
 simp only [docS, S16.cells, List.length_map] at sr
 refine Ok.step sr fun q ⟨⟨a', k1, k2⟩, k3⟩ => ?_
 obtain ⟨q, J2⟩ := q
 simp only at k1 k2 k3
 subst k1
 have hgd : (Ds.map DO.ov).getD i ⟨⟨0, 0, 0, 0, false⟩, [], [], 0⟩ = d.ov := by rw [List.getD_eq_getElem?_getD, hoi]; rfl
 have hset : ((docS N T S Ds).setR i k (IntKind.u64.wrap (z.w + k))).l = (Ds.set i (d.setR k (IntKind.u64.wrap (z.w + k)))).map DO.ov := by
  unfold S16.setR docS
  simp only
  rw [hgd, List.map_set]
  rfl
 have hlw : wb < J1.next := g2.lt wb (by simp)
 have hwb2 := (k3.blk wb hlw).trans hwb1
 have hset' : ({ size := 8 * (N : Int), top := (T.top : Int), large := (S.E.length : Int), l := Ds.map DO.ov } : S16).setR i k (IntKind.u64.wrap (z.w + k)) = ⟨8 * N, T.top, S.E.length, (Ds.set i (d.setR k (IntKind.u64.wrap (z.w + k)))).map DO.ov⟩ := by
  have : ∀ (s : S16) (i k : Nat) (x : Int), s.setR i k x = ⟨s.size, s.top, s.large, (s.setR i k x).l⟩ := fun _ _ _ _ => rfl
  rw [this]
  congr 1
 rw [hset'] at k2
 simp only [hset', List.length_map, List.length_set]
 simp (maxSteps := 2000000) -implicitDefEqProofs (disch := (first | omega | rfl | assumption | (simp only [rsD]; first | omega | assumption))) only [hwb2, e17, Nat.reduceAdd, Nat.reduceMul, Nat.reduceLT, Int.reduceToNat, Int.reduceAdd, Int.reduceSub, Int.reduceMul, rsU, rsC]
 rw [ok.p] at g2
 have hlt := g2.lt
 have kn : 1 + d.P.length + k < d.n := by unfold DO.n; omega
 obtain ⟨tt, hz'⟩ := setT_hz m hz hm kn (IntKind.u64.wrap (z.w + k))
 have mk := m.setr hd hk (IntKind.u64.wrap (z.w + k)) g2 (c' := c + 6) ((g3.few m.few).le (c' := 2 + (Ds.length : Int)) (by omega) (by omega))
 have ch : Chg [wb] J1 (J2.put wb (.cells true T_haymowref16_State [.i .i64 8, .i .i64 (8 * (N : Int)), .i .i64 (T.top : Int), .i .i64 (S.E.length : Int), .sl a' Ds.length])) := ⟨k3.next, fun b hb hm => (s_bn (by simpa using hm)).trans (k3.blk b hb)⟩
 have mk2 := mk.turn ch (fun b hb => .inl (by simp at hb; simp [hb])) (fun b hb => .inl hb)
 refine Ok_some.2 ⟨_, rfl, M', _, _, _, mk2, hz', ⟨a', ?_, k2⟩, ⟨Nat.le_trans g4.next k3.next, fun b hb => ?_⟩⟩
 ·rw [tt, List.length_set]; exact s_bs
 ·have hne : b ≠ wb := by
   rintro rfl
   rcases List.mem_cons.1 hb with h | h
   ·exact hx.2 h.symm
   ·exact hx.1 h
  have hb' : b ∈ shb :: wb :: X := by
   rcases List.mem_cons.1 hb with h | h
   ·simp [h]
   ·simp [h]
  rw [s_bn hne, k3.blk b (hlt b hb'), g4.blk b hb']
end
end Go.Abs.Tryz
namespace Go.Abs.Tryz
open Go Go.Abs
variable {O : Type}
theorem made_doc {Ds : List DO} {N p r st a : Nat} {T T2 : StoS} {S S2 : PoolS} (h1 : T.top = sumTo (smN Ds) Ds.length) (h2 : S.E.length = lgN Ds) (h3 : T2.top = sumTo (smN (Ds ++ [newDO p r st a])) (Ds ++ [newDO p r st a]).length) (h4 : S2.E.length = lgN (Ds ++ [newDO p r st a])) (hw : (newDO p r st a).ref = S16.word ⟨8 * (N : Int), (T.top : Int), (S.E.length : Int), Ds.map DO.ov⟩ p r) :
  S16.made ⟨8 * (N : Int), (T.top : Int), (S.E.length : Int), Ds.map DO.ov⟩ p r st = ⟨8 * (N : Int), (T2.top : Int), (S2.E.length : Int), (Ds ++ [newDO p r st a]).map DO.ov⟩ := by
 rw [sum_app, <- h1, newDO_lg, newDO_n] at h3
 rw [lgN_app, <- h2, newDO_lg] at h4
 have e0 : (newDO p r st a).ov = newOV p r st (decide (8 < 1 + p + r)) (newDO p r st a).ref := by
  unfold DO.ov newOV
  congr 1
  show newHd p r st 8 = _
  have := newDO_lg (p := p) (r := r) (s := st) (a := a)
  unfold newHd
  congr 1
 unfold S16.made
 by_cases c : 8 < 1 + p + r
 ·rw [if_pos c]
  simp only [decide_eq_true c, if_true] at h3 h4
  rw [h3, h4, List.map_append, List.map_singleton, e0, <- hw, decide_eq_true c]
  simp
 ·rw [if_neg c]
  simp only [decide_eq_false c, Bool.false_eq_true, if_false] at h3 h4
  rw [h3, h4, List.map_append, List.map_singleton, e0, <- hw, decide_eq_false c]
  simp
section
variable {J : AH O} {sb nb lb pb mb shb wb : Nat} {M : MemS} {S : PoolS} {w : List Int} {L : LarS} {T : StoS} {X : List Nat} {Ds : List DO} {N : Nat} {c : Int}
theorem raws_ok (m : MkE J sb nb lb pb mb M S w L T (shb :: wb :: X) Ds N c) (hz : ∀ j, T.top <= j -> T.ws.getD j 0 = 0) (hc : c <= 8000000) (hN : Ds.length <= 20) {i n : Nat} {d : DO} (hd : Ds[i]? = some d) (hin : i < n) {p : Int} (hsh : J.blk shb = some (.cells true T_api_Shape [.i .i64 p, .i .i64 (d.R.length : Int)])) (hdoc : DocAt J wb N T S Ds) {sa : SA} {zs : List MZ} (hA : Asked J X sa zs) (hn : zs.length = n) (hx : wb ∉ X /\ shb ≠ wb) {r22 r17 : List AV × AH O} (e22 : r22.2.next = shb) (e17 : r17.2.next = wb) :
  Ok (loopF (qm7 r22 (i : Int) (sa, n) qmt (some (.n sb, 0)) d.ref r17 qm3) ([.i .i64 0], J)) fun q => ∃ J', q = .inl ([], J') /\ ∃ M' L' T' d', MkE J' sb nb lb pb mb M' S w L' T' (shb :: wb :: X) (Ds.set i d') N (c + 90) /\ (∀ j, T'.top <= j -> T'.ws.getD j 0 = 0) /\ DocAt J' wb N T' S (Ds.set i d') /\ Keep (shb :: X) J J' := by
 have hil := (List.getElem?_eq_some_iff.1 hd).1
 obtain ⟨ok, okP, okR⟩ := m.ok d (List.mem_of_getElem? hd)
 have hset : Ds.set i d = Ds := by
  apply List.ext_getElem?
  intro j
  rw [List.getElem?_set]
  by_cases c : i = j
  ·subst c; rw [if_pos rfl, if_pos hil, hd]
  ·rw [if_neg c]
 refine Ok.count d.R.length (fun k s => ∃ J' M' L' T' d', s = ([.i .i64 (k : Int)], J') /\ MkE J' sb nb lb pb mb M' S w L' T' (shb :: wb :: X) (Ds.set i d') N (c + 6 * k) /\ d'.R.length = d.R.length /\ d'.ref = d.ref /\ (∀ j, T'.top <= j -> T'.ws.getD j 0 = 0) /\ DocAt J' wb N T' S (Ds.set i d') /\ Keep (shb :: X) J J') ?_ ?_ ⟨J, M, L, T, d, rfl, ?_, rfl, rfl, hz, ?_, Keep.refl _ _⟩
 ·rintro k _ hk ⟨J1, M1, L1, T1, d1, rfl, m1, hr, hf, hz1, hd1, kp⟩
  have hsh1 := (kp.blk shb (by simp)).trans hsh
  rw [<- hr] at hsh1 hk
  rw [<- hf]
  refine (raw_step m1 hz1 (by omega) (by simpa using hN) (i := i) (n := n) (d := d1) (by rw [List.getElem?_set]; simp [hil]) hin hk hsh1 hd1 (hA.of kp.tail) hn hx e22 e17).mono ?_
  rintro _ ⟨J2, rfl, M2, L2, T2, x, m2, hz2, hd2, kp2⟩
  rw [List.set_set] at m2 hd2
  have e : c + 6 * (k : Int) + 6 = c + 6 * ((k + 1 : Nat) : Int) := by omega
  exact ⟨J2, M2, L2, T2, d1.setR k x, rfl, e ▸ m2, by simpa [DO.setR] using hr, rfl, hz2, hd2, kp.trans kp2⟩
 ·rintro _ ⟨J1, M1, L1, T1, d1, rfl, m1, hr, hf, hz1, hd1, kp⟩
  have hsh1 := (kp.blk shb (by simp)).trans hsh
  simp (maxSteps := 2000000) -implicitDefEqProofs (disch := (first | omega | rfl | assumption | (simp only [rsD]; first | omega | assumption))) only [qm7, e22, hsh1, Nat.reduceAdd, Nat.reduceMul, Nat.reduceLT, Int.reduceToNat, Int.reduceAdd, Int.reduceSub, Int.reduceMul, rsU, rsC]
  exact Ok_some.2 ⟨J1, rfl, M1, L1, T1, d1, { m1 with few := m1.few.le (by omega) (Int.le_refl _) }, hz1, hd1, kp⟩
 ·rw [hset]
  have e : c + 6 * ((0 : Nat) : Int) = c := by omega
  rw [e]; exact m
 ·rw [hset]; exact hdoc
theorem made_step (m : MkE J sb nb lb pb mb M S w L T (wb :: X) Ds N c) (hz : ∀ j, T.top <= j -> T.ws.getD j 0 = 0) (hc : c <= 7000000) (hN : N <= 20) (hk : Ds.length < N) (hdoc : DocAt J wb N T S Ds) {sa : SA} {zs : List MZ} (hA : Asked J X sa zs) (hn : zs.length = N) (ho : ∀ z ∈ zs, z.ok) (hx : wb ∉ X) {r17 : List AV × AH O} (e17 : r17.2.next = wb) :
  Ok (qm8 (sa, N) qkp (some (.n sb, 0)) r17 qk9 qmt qm3 ([.i .i64 (Ds.length : Int)], J)) fun q => ∃ J', q = .inl ([.i .i64 ((Ds.length + 1 : Nat) : Int)], J') /\ ∃ M' S' w' L' T' d', MkE J' sb nb lb pb mb M' S' w' L' T' (wb :: X) (Ds ++ [d']) N (c + 120) /\ (∀ j, T'.top <= j -> T'.ws.getD j 0 = 0) /\ DocAt J' wb N T' S' (Ds ++ [d']) /\ Keep X J J' := by
 obtain ⟨z, hzz⟩ : ∃ z, zs[Ds.length]? = some z := ⟨_, List.getElem?_eq_getElem (by omega)⟩
 have zo := ho z (List.mem_of_getElem? hzz)
 obtain ⟨bb, o, href, hl⟩ := hA _ z hzz
 have hlt := m.a.lt
 have l0 := fun (J' : AH O) (k : Keep X J J') => hl J' k
 have K1 : Keep X J (J.bump 1) := Keep.bump X J 1
 have K2 : ∀ x : Blk O, Keep X J ((J.bump 1).put J.next x) := fun x => ⟨by simp, fun b hb => by
  have := hlt b (by simp [hb])
  simp -implicitDefEqProofs (disch := omega) only [s_bn, s_bs, s_kn, bump_blk]⟩
 have q0 := (hl _ K1).1
 have q1 := (hl _ K1).2.1
 have q2 := fun x : Blk O => (hl _ (K2 x)).2.2.1
 obtain ⟨p, hp⟩ : ∃ p : Nat, p = (z.p % 16).toNat := ⟨_, rfl⟩
 obtain ⟨r, hr⟩ : ∃ r : Nat, r = (z.r % 16).toNat := ⟨_, rfl⟩
 have ap : ibits .and .i64 z.p 15 = (p : Int) := by rw [hp]; exact and15 zo.p
 have ar : ibits .and .i64 z.r 15 = (r : Int) := by rw [hr]; exact and15 zo.r
 have as_ : ibits .and .u8 (z.s : Int) 31 = ((z.s % 32 : Nat) : Int) := and31 ⟨z.s, zo.s⟩
 have as2 : IntKind.i64.wrap (((z.s % 32 : Nat)) : Int) = ((z.s % 32 : Nat) : Int) := s_i64 (by omega)
 generalize hs : z.s % 32 = st at as_ as2
 have hst : st < 32 := by omega
 have hi1 : decide ((Ds.length : Int) < (N : Int)) = true := decide_eq_true (by omega)
 simp (maxSteps := 2000000) -implicitDefEqProofs (disch := (first | omega | rfl | assumption | (simp only [rsD]; first | omega | assumption))) only [qm8, e17, hi1, href, q0, q1, q2, ap, ar, as_, as2, Nat.reduceAdd, Nat.reduceMul, Nat.reduceLT, Int.reduceToNat, Int.reduceAdd, Int.reduceSub, Int.reduceMul, rsU, rsC]
 generalize hJ : AH.put _ J.next _ = J1
 have n1 : J1.next = J.next + 1 := by rw [<- hJ]; rfl
 have bs1 : J1.blk J.next = some (.cells true T_api_Shape [.i .i64 (p : Int), .i .i64 (r : Int)]) := by rw [<- hJ]; exact s_bs
 have E1 : Ext J J1 := ⟨by omega, fun b hb => by rw [<- hJ]; simp -implicitDefEqProofs (disch := omega) only [s_bn, s_bs, s_kn, bump_blk]⟩
 clear hJ
 have m1 : MkE J1 sb nb lb pb mb M S w L T (J.next :: wb :: X) Ds N c := m.turn (K := []) ⟨E1.next, fun b hb _ => E1.blk b hb⟩ (by simp) (fun b hb => by
  rcases List.mem_cons.1 hb with h | h
  ·exact .inr ⟨by omega, by omega⟩
  ·exact .inl h)
 refine Ok.step (mke_make m1 hz hk hN (by omega) (p := p) (r := r) (s := st) (by omega) (by omega) hst) fun q ⟨a, g1, g2, M2, S2, w2, L2, T2, m2, hz2, k2⟩ => ?_
 obtain ⟨q, J2⟩ := q
 simp only at g1 m2 k2
 subst g1
 obtain ⟨aD, hwb, hoa⟩ := hdoc
 have hw2 := (k2.blk wb (by simp)).trans ((E1.blk wb (hlt wb (by simp))).trans hwb)
 have bs2 := (k2.blk J.next (by simp)).trans bs1
 have KX2 : Keep X J J2 := ⟨Nat.le_trans E1.next k2.next, fun b hb => (k2.blk b (by simp [hb])).trans (E1.blk b (hlt b (by simp [hb])))⟩
 have q3 := (hl J2 KX2).2.2.1
 have hlw : wb < J2.next := m2.a.lt wb (by simp)
 have f0 : (false == false) = true := rfl
 have z0 : ((0 : Int) == 0) = true := rfl
 simp (maxSteps := 2000000) -implicitDefEqProofs (disch := (first | omega | rfl | assumption | (simp only [rsD]; first | omega | assumption))) only [hw2, bs2, q3, as_, as2, e17, Nat.reduceAdd, Nat.reduceMul, Nat.reduceLT, Int.reduceToNat, Int.reduceAdd, Int.reduceSub, Int.reduceMul, rsU, rsC]
 have htb := m.topb
 have hlen := m.len
 have hlg := lgN_le Ds
 have mk := rmake_ok (J := J2) (a := aD) (s := docS N T S Ds) hoa (by simp [docS]; omega) (p := p) (r := r) (st := st) (by omega) (by omega) hst (by simp only [docS]; omega) (by simp only [docS]; omega) (by simp only [docS]; omega) (fun h => by simp only [docS]; omega)
 simp only [docS, S16.cells, List.length_map] at mk
 refine Ok.step mk fun q ⟨⟨a', j1, j2⟩, j3⟩ => ?_
 obtain ⟨q, J3⟩ := q
 simp only at j1 j2 j3
 subst j1
 have ew : (newDO p r st a).ref = S16.word ⟨8 * (N : Int), (T.top : Int), (S.E.length : Int), Ds.map DO.ov⟩ p r := by
  rw [g2]; unfold S16.word; simp only; rw [hlen]
 have hw3 := (j3.blk wb hlw).trans hw2
 rw [<- ew]
 have rr : ((newDO p r st a).ref == (newDO p r st a).ref) = true := by simp
 rw [made_doc m1.top m1.len m2.top m2.len ew] at j2 ⊢
 simp only [List.length_map]
 simp (maxSteps := 2000000) -implicitDefEqProofs (disch := (first | omega | rfl | assumption | (simp only [rsD]; first | omega | assumption))) only [hw3, e17, f0, z0, rr, bne, Bool.not_true, Nat.reduceAdd, Nat.reduceMul, Nat.reduceLT, Int.reduceToNat, Int.reduceAdd, Int.reduceSub, Int.reduceMul, rsU, rsC]
 generalize hJ : AH.put _ wb _ = J4
 have n4 : J4.next = J3.next := by rw [<- hJ]; rfl
 have bw4 : J4.blk wb = some (.cells true T_haymowref16_State [.i .i64 8, .i .i64 (8 * (N : Int)), .i .i64 (T2.top : Int), .i .i64 (S2.E.length : Int), .sl a' (Ds ++ [newDO p r st a]).length]) := by rw [<- hJ]; exact s_bs
 have ch : Chg [wb] J2 J4 := ⟨by rw [n4]; exact j3.next, fun b hb hm => by rw [<- hJ, s_bn (by simpa using hm)]; exact j3.blk b hb⟩
 clear hJ
 have m4 := m2.turn ch (fun b hb => .inl (by simp at hb; simp [hb])) (fun b hb => .inl hb)
 have lt2 := m2.a.lt
 have nw : J.next ≠ wb := by have := hlt wb (by simp); omega
 have bs4 := (ch.blk J.next (lt2 _ (by simp)) (by simpa using nw)).trans bs2
 have K4 : Keep X J J4 := ⟨Nat.le_trans KX2.next ch.next, fun b hb => (ch.blk b (lt2 b (by simp [hb])) (by simp; rintro rfl; exact hx hb)).trans (KX2.blk b hb)⟩
 have lr : (newDO p r st a).R.length = r := by simp [newDO]
 refine Ok.bindS (raws_ok (i := Ds.length) (n := N) (d := newDO p r st a) (p := (p : Int)) (zs := zs) (sa := sa) m4 hz2 (by omega) (by simp; omega) (by simp) hk (by rw [lr]; exact bs4) ⟨a', bw4, j2⟩ (hA.of K4) hn ⟨hx, nw⟩ rfl e17) ?_ (fun q hq => by obtain ⟨_, e, _⟩ := hq; cases e)
 rintro _ ⟨J5, e, M5, L5, T5, d5, m5, hz5, hd5, k5⟩
 simp only [Sum.inl.injEq] at e
 subst e
 simp (maxSteps := 2000000) -implicitDefEqProofs (disch := (first | omega | rfl | assumption | (simp only [rsD]; first | omega | assumption))) only [Nat.reduceAdd, Nat.reduceMul, Nat.reduceLT, Int.reduceToNat, Int.reduceAdd, Int.reduceSub, Int.reduceMul, rsU, rsC]
 have lt5 := m5.a.lt
 rw [List.set_append_right _ _ (Nat.le_refl _), Nat.sub_self] at m5 hd5
 have m6 := m5.turn (Z := wb :: X) (K := []) ⟨Nat.le_refl _, fun _ _ _ => rfl⟩ (by simp) (fun b hb => .inl (by simp at hb ⊢; simp [hb]))
 exact Ok_some.2 ⟨J5, rfl, M5, S2, w2, L5, T5, d5, { m6 with few := m6.few.le (by omega) (Int.le_refl _) }, hz5, hd5, K4.trans k5.tail⟩
end
theorem made_ok {J : AH O} {X : List Nat} (hX : ∀ b ∈ X, b < J.next) {sa : SA} {zs : List MZ} (hA : Asked J X sa zs) (hN : zs.length <= 20) (ho : ∀ z ∈ zs, z.ok) :
  Ok (qna [.sl sa zs.length] J) fun q => ∃ sb nb lb pb mb M S w L T Ds a, q.1 = .tup [.p (some (.n sb, 0)), .sl a Ds.length, .b true] /\ MkE q.2 sb nb lb pb mb M S w L T X Ds zs.length (120 * Ds.length) /\ Ds.length = zs.length /\ OAt a (Ds.map DO.ov) /\ Keep X J q.2 := by
 have f0 : (false == false) = true := rfl
 have z0 : ((0 : Int) == 0) = true := rfl
 simp (maxSteps := 2000000) -implicitDefEqProofs (disch := (first | omega | rfl | assumption | (simp only [rsD]; first | omega | assumption))) only [qna, qm9, Nat.reduceAdd, Nat.reduceMul, Nat.reduceLT, Int.reduceToNat, Int.reduceAdd, Int.reduceSub, Int.reduceMul, rsU, rsC]
 refine Ok.step (snew_ok hX (small := 8) (words := 8 * (zs.length : Int)) (by decide) (by omega)) fun q ⟨sb, nb, lb, pb, mb, M, S, g1, g2, g3, g4, g5, g6, _, g7⟩ => ?_
 obtain ⟨q, J1⟩ := q
 simp only at g1 g2 g7
 subst g1
 subst g3
 obtain ⟨el, hsb⟩ := g2.s
 rw [show (8 * (zs.length : Int)).toNat = 8 * zs.length by omega] at g2
 simp (maxSteps := 2000000) -implicitDefEqProofs (disch := (first | omega | rfl | assumption | (simp only [rsD]; first | omega | assumption))) only [qcp, qco, qcu, qct, qcz, qcy, hsb, Option.isNone_some, f0, z0, bne, Bool.not_true, Nat.reduceAdd, Nat.reduceMul, Nat.reduceLT, Int.reduceToNat, Int.reduceAdd, Int.reduceSub, Int.reduceMul, rsU, rsC]
 generalize hJ : AH.put _ J1.next _ = J2
 have n2 : J2.next = J1.next + 1 := by rw [<- hJ]; rfl
 have b2 : J2.blk J1.next = some (.cells true T_haymowref16_State [.i .i64 8, .i .i64 (8 * (zs.length : Int)), .i .i64 0, .i .i64 0, .sl .nil 0]) := by rw [<- hJ]; exact s_bs
 have E2 : Ext J1 J2 := ⟨by omega, fun b hb => by rw [<- hJ]; simp -implicitDefEqProofs (disch := omega) only [s_bn, s_bs, s_kn, bump_blk]⟩
 clear hJ
 have lt1 := g2.lt
 have m0 := MkE.new (N := zs.length) (g2.beside (Z := J1.next :: X) E2 (fun b hb => by
  rcases List.mem_cons.1 hb with h | h
  ·exact .inr ⟨by omega, by omega⟩
  ·exact .inl h)) g4 g5 g6
 have K2 : Keep X J J2 := ⟨Nat.le_trans g7.next E2.next, fun b hb => (E2.blk b (lt1 b hb)).trans (g7.blk b hb)⟩
 have hx : J1.next ∉ X := fun h => by have := lt1 _ h; omega
 have lp : Ok (loopF (qm8 (sa, zs.length) qkp (some (.n sb, 0)) (([AV.b false], J1) : List AV × AH O) qk9 qmt qm3) ([.i .i64 0], J2)) fun q => ∃ J' M S w L T Ds, q = .inl ([], J') /\ MkE J' sb nb lb pb mb M S w L T (J1.next :: X) Ds zs.length (120 * Ds.length) /\ Ds.length = zs.length /\ DocAt J' J1.next zs.length T S Ds /\ Keep X J2 J' := by
  refine Ok.count zs.length (fun k s => ∃ J' M S w L T Ds, s = ([.i .i64 ((Ds.length : Nat) : Int)], J') /\ Ds.length = k /\ MkE J' sb nb lb pb mb M S w L T (J1.next :: X) Ds zs.length (120 * Ds.length) /\ (∀ j, T.top <= j -> T.ws.getD j 0 = 0) /\ DocAt J' J1.next zs.length T S Ds /\ Keep X J2 J') ?_ ?_ ⟨J2, M, _, _, _, _, [], rfl, rfl, m0, fun j _ => getD_rep, ⟨.nil, b2, Row.nil OV.len⟩, Keep.refl _ _⟩
  ·rintro k _ hk ⟨J3, M3, S3, w3, L3, T3, Ds, rfl, rfl, m3, hz3, hd3, k3⟩
   refine (made_step m3 hz3 (by omega) hN hk hd3 (hA.of (K2.trans k3)) rfl ho hx rfl).mono ?_
   rintro _ ⟨J4, rfl, M4, S4, w4, L4, T4, d4, m4, hz4, hd4, k4⟩
   exact ⟨J4, M4, S4, w4, L4, T4, Ds ++ [d4], by rw [List.length_append]; rfl, by simp, { m4 with few := m4.few.le (by simp; omega) (Int.le_refl _) }, hz4, hd4, k3.trans k4⟩
  ·rintro _ ⟨J3, M3, S3, w3, L3, T3, Ds, rfl, hl, m3, hz3, hd3, k3⟩
   simp (maxSteps := 2000000) -implicitDefEqProofs (disch := (first | omega | rfl | assumption | (simp only [rsD]; first | omega | assumption))) only [qm8, Nat.reduceAdd, Nat.reduceMul, Nat.reduceLT, Int.reduceToNat, Int.reduceAdd, Int.reduceSub, Int.reduceMul, rsU, rsC]
   exact Ok_some.2 ⟨J3, M3, S3, w3, L3, T3, Ds, rfl, m3, hl, hd3, k3⟩
 refine Ok.bindS lp ?_ (fun q hq => by obtain ⟨_, _, _, _, _, _, _, e, _⟩ := hq; cases e)
 rintro _ ⟨J3, M3, S3, w3, L3, T3, Ds, e, m3, hl, ⟨a, hb3, ha⟩, k3⟩
 simp only [Sum.inl.injEq] at e
 subst e
 simp (maxSteps := 2000000) -implicitDefEqProofs (disch := (first | omega | rfl | assumption | (simp only [rsD]; first | omega | assumption))) only [hb3, Nat.reduceAdd, Nat.reduceMul, Nat.reduceLT, Int.reduceToNat, Int.reduceAdd, Int.reduceSub, Int.reduceMul, rsU, rsC]
 have m4 := m3.turn (Z := X) (K := []) ⟨Nat.le_refl _, fun _ _ _ => rfl⟩ (by simp) (fun b hb => .inl (by simp [hb]))
 exact Ok_some.2 ⟨sb, nb, lb, pb, mb, M3, S3, w3, L3, T3, Ds, a, rfl, m4, hl, ha, K2.trans k3⟩
end Go.Abs.Tryz
set_option maxHeartbeats 2000000
namespace Go.Abs.Tryz
open Go Go.Abs
variable {O : Type}
theorem sumTo_zero {g : Nat -> Nat} (h : ∀ j, g j = 0) : ∀ n, sumTo g n = 0
 | 0 => rfl
 | n + 1 => by simp only [sumTo, sumTo_zero h n, h n]
theorem MkE.ev {J : AH O} {sb nb lb pb mb : Nat} {M : MemS} {S : PoolS} {w : List Int} {L : LarS} {T : StoS} {X : List Nat} {Ds : List DO} {N : Nat} {c : Int} (m : MkE J sb nb lb pb mb M S w L T X Ds N c) (i : Nat) : EV Ds (fun _ => none) L.fresh (T.flip i) T.ws T.top where
 ok := fun d hd => (m.ok d hd).1
 sm := m.sm
 ap := m.ap
 vl := m.a.top
 top := (sumTo_zero (fun j => rfl) _).symm
 tot := m.top
 wl := List.length_replicate
 s0 := fun i d hd hl _ => m.s0 d (List.mem_of_getElem? hd) hl
 s1 := fun i d t hd hl h => by cases h
 l0 := fun i d hd hl _ => ⟨by simp [LarS.fresh], m.l0 d (List.mem_of_getElem? hd) hl⟩
 l1 := fun i d t hd hl h => by cases h
 inj := fun i j a b t _ _ _ _ h _ => by cases h
def MemS.t (M : MemS) : Int := M.met.r + M.met.w
theorem StoAt.mem {J : AH O} {sb nb lb pb mb : Nat} {M : MemS} {S : PoolS} {w : List Int} {L : LarS} {T : StoS} {X : List Nat} {Y : List Int} (h : StoAt J sb nb lb pb mb M S w L T X Y) : ∃ el tb el2 rest, J.blk sb = some (.cells true el [.p (some (.n mb, 0)), .p (some (.n nb, 0)), .p (some (.n lb, 0)), .i .i64 T.small]) /\ J.blk mb = some (.cells true el2 (.p (some (.n tb, 0)) :: rest)) /\ MetAt J tb M.met := by
 obtain ⟨el, hs⟩ := h.s
 obtain ⟨F, h1, _⟩ := h.l.p.mi
 obtain ⟨tb, el2, rest, q1, q2⟩ := h1.meter
 exact ⟨el, tb, el2, rest, hs, q1, q2⟩
theorem wcs_few {t : Int} (h : 0 <= t /\ t < 18446744073709551616) : wcs t = [.i .u64 0, .i .u64 t] := by
 unfold wcs; rw [show t / 18446744073709551616 = 0 by omega, show t % 18446744073709551616 = t by omega]
theorem MemS.t0 {M : MemS} (hok : M.ok) : 0 <= M.t := by
 have h1 := hok.met.r
 have h2 := hok.met.w
 unfold MemS.t; omega
theorem tickS {J : AH O} {b : Nat} {M : MemS} (h : MetAt J b M.met) (hok : M.ok) (ht : M.t < 18446744073709551616) : Ok (qrq [.p (some (.n b, 0))] J) fun r => r.1 = .agg [.i .u64 0, .i .u64 M.t] /\ Ext J r.2 := by
 have := steps_ok h hok.met
 have h0 := M.t0 hok
 rw [show M.met.r + M.met.w = M.t from rfl, wcs_few ⟨h0, ht⟩] at this
 exact this
theorem sinceS {J : AH O} {b : Nat} {M : MemS} (h : MetAt J b M.met) (hok : M.ok) (ht : M.t < 18446744073709551616) {s : Int} (h0 : 0 <= s) (hs : s <= M.t) : Ok (qsa [.p (some (.n b, 0)), .agg [.i .u64 0, .i .u64 s]] J) fun r => r.1 = .agg [.i .u64 0, .i .u64 (M.t - s)] /\ Ext J r.2 := by
 have := since_ok h hok.met h0 hs
 rw [show M.met.r + M.met.w = M.t from rfl, wcs_few (t := s) ⟨h0, by omega⟩, wcs_few (t := M.t - s) (by omega)] at this
 exact this
theorem Beh.mono' {Y : List Int} {M M' : MemS} {d a n : Int} (h : Beh Y M M' d a n) : M.t <= M'.t /\ M'.t <= M.t + d := by
 have h1 := h.k; have h2 := h.r; have h3 := h.w
 unfold MemS.t; omega
section
variable {f : Fn × List AV × List AV} {Tw : List Hd -> AH O -> List Nat -> Prop} (tl : Teller f Tw) {J : AH O} {eb sb nb lb pb mb : Nat} {M : MemS} {S : PoolS} {w : List Int} {L : LarS} {T : StoS} {X Z : List Nat} {Y : List Int} {oid : Int} {v : List Int} {ot : Nat} {hs : List Hd} (h : MovAt f Tw J eb sb nb lb pb mb M S w L T X Y oid v ot hs Z)
include tl h
theorem MovAt.turn {J' : AH O} {K X' : List Nat} (hc : Chg K J J') (hl : ∀ b ∈ K, b ∈ X ∨ J.next <= b) (hX : ∀ b ∈ X', b ∈ X ∨ (J.next <= b /\ b < J'.next)) : MovAt f Tw J' eb sb nb lb pb mb M S w L T X' Y oid v ot hs Z := by
 have le := h.lt
 have lZ := h.lZ
 have ne : eb ∉ K := fun hm => by
  rcases hl _ hm with g | g
  ·exact h.nx.2 g
  ·omega
 have nz : ∀ b ∈ Z, b ∉ K := fun b hb hm => by
  rcases hl _ hm with g | g
  ·exact h.nz b hb g
  ·have := lZ b hb; omega
 refine ⟨⟨h.t.s.turn hc (fun b hb => ?_) (fun b hb => ?_), h.t.old, h.t.w, h.t.top⟩, (hc.blk eb le ne).trans h.b, ⟨h.nx.1, fun hm => ?_⟩, fun b hb hm => ?_, tl.keep h.j ⟨hc.next, fun b hb => hc.blk b (lZ b hb) (nz b hb)⟩⟩
 ·rcases hl b hb with g | g
  ·exact .inl (by simp [g])
  ·exact .inr g
 ·simp only [List.mem_cons, List.mem_append] at hb ⊢
  rcases hb with hb | hb | hb
  ·exact .inl (.inl hb)
  ·exact .inl (.inr (.inl hb))
  ·rcases hX b hb with g | g
   ·exact .inl (.inr (.inr g))
   ·exact .inr g
 ·rcases hX _ hm with g | g
  ·exact h.nx.2 g
  ·omega
 ·rcases hX b hm with g | g
  ·exact h.nz b hb g
  ·have := lZ b hb; omega
end
theorem rwords20_ok (J : AH O) (p r s g w : Int) (l : Bool) {a b : SA} {n m : Nat} (hn : n <= 100000) (hm : m <= 100000) : Ok (qam [.agg [.i .i64 p, .i .i64 r, .i .i64 s, .i .i64 g, .b l, .sl a n, .sl b m, .i .u64 w]] J) fun q => q.1 = .i .i64 ((1 + n + m : Nat) : Int) /\ Ext J q.2 := by
 simp (maxSteps := 2000000) -implicitDefEqProofs (disch := (first | omega | rfl | assumption | (simp only [rsD]; first | omega | assumption))) only [qam, qal, Nat.reduceAdd, Nat.reduceMul, Nat.reduceLT, Int.reduceToNat, Int.reduceAdd, Int.reduceSub, Int.reduceMul, rsU, rsC]
 exact Ok_some.2 ⟨by show AV.i _ _ = AV.i _ _; congr 1 <;> omega, (ext_of (by simp only [put_next, bump_next, kill_next]; omega) (fun b hb => by simp -implicitDefEqProofs (disch := (first | omega | rfl | assumption | (simp only [rsD]; first | omega | assumption))) only [s_bn, s_kn, bump_blk, s_ext]))⟩
end Go.Abs.Tryz
set_option maxHeartbeats 4000000
namespace Go.Abs.Tryz
open Go Go.Abs
variable {O : Type}
end Go.Abs.Tryz
set_option maxRecDepth 100000
namespace Go.Abs.Tryz
open Go Go.Abs Go.Proofs
variable {O : Type}
theorem ClsFld {P : Program} {d : Nat} {t : TypeId} {fs : Array Field} {cs : List AV} (hu : P.underlying t = some (.struct fs)) (h : Cls P (d + 1) t cs) :
  ∃ parts : List (List AV), cs = parts.flatten /\ parts.length = fs.toList.length /\ ∀ (i : Nat) (f : Field) (part : List AV), fs.toList[i]? = some f -> parts[i]? = some part -> Cls P d f.type part := by
 unfold Cls at h; rw [hu] at h; exact h
def MZ.cs (z : MZ) : List AV := [.i .i64 z.p, .i .i64 z.r, .i .u8 (z.s : Int), .i .u64 z.w]
theorem shape_in {d : Nat} {cs : List AV} (h : Cls Tryz.prog (d + 2) 37 cs) : ∃ p r, cs = [.i .i64 p, .i .i64 r] /\ (-9223372036854775808 <= p /\ p <= 9223372036854775807) /\ (-9223372036854775808 <= r /\ r <= 9223372036854775807) := by
 obtain ⟨parts, rfl, hl, hp⟩ := ClsFld Tryz.underlying37 h
 match parts, hl, hp with
 | [p0, p1], _, hp =>
  obtain ⟨a, rfl, ha⟩ := ClsI (k := .i64) Tryz.underlying3 (hp 0 _ p0 rfl rfl)
  obtain ⟨b, rfl, hb⟩ := ClsI (k := .i64) Tryz.underlying3 (hp 1 _ p1 rfl rfl)
  exact ⟨a, b, rfl, ha, hb⟩
theorem make_in {d : Nat} {cs : List AV} (h : Cls Tryz.prog (d + 3) 73 cs) : ∃ z : MZ, cs = z.cs /\ z.ok := by
 obtain ⟨parts, rfl, hl, hp⟩ := ClsFld Tryz.underlying73 h
 match parts, hl, hp with
 | [p0, p1, p2], _, hp =>
  obtain ⟨p, r, rfl, ip, ir⟩ := shape_in (d := d) (hp 0 _ p0 rfl rfl)
  obtain ⟨s, rfl, hs⟩ := ClsI (k := .u8) Tryz.underlying5 (hp 1 _ p1 rfl rfl)
  obtain ⟨w, rfl, hw⟩ := ClsI (k := .u64) Tryz.underlying33 (hp 2 _ p2 rfl rfl)
  obtain ⟨s, rfl⟩ := Int.eq_ofNat_of_zero_le hs.1
  have h2 : (s : Int) <= 255 := hs.2
  exact ⟨⟨p, r, s, w⟩, rfl, ip, ir, by show s < 256; omega⟩
theorem makes_in {d : Nat} : ∀ {els : List (List AV)}, (∀ el ∈ els, Cls Tryz.prog (d + 3) 73 el) -> ∃ zs : List MZ, zs.length = els.length /\ zs.flatMap MZ.cs = els.flatten /\ ∀ z ∈ zs, z.ok
 | [], _ => ⟨[], rfl, rfl, by simp⟩
 | e :: els, h => by
  obtain ⟨z, rfl, hz⟩ := make_in (h e List.mem_cons_self)
  obtain ⟨zs, h1, h2, h3⟩ := makes_in (d := d) (els := els) fun y hy => h y (List.mem_cons_of_mem _ hy)
  refine ⟨z :: zs, by simp [h1], by rw [List.flatMap_cons, List.flatten_cons, h2], fun y hy => ?_⟩
  rcases List.mem_cons.1 hy with rfl | hy
  ·exact hz
  ·exact h3 y hy
theorem askedImm {J : AH O} {X : List Nat} {a : SA} {zs : List MZ} (h : Imm 4 a zs.length (zs.flatMap MZ.cs)) : Asked J X a zs := by
 intro i z hz
 obtain ⟨b, o, rfl, ld⟩ := Imm.row (enc := MZ.cs) (fun _ => rfl) h hz (by decide)
 exact ⟨b, o, rfl, fun J' _ => ⟨ld O J' 0 (by decide), ld O J' 1 (by decide), ld O J' 2 (by decide), ld O J' 3 (by decide)⟩⟩
theorem list_in {x : AV} (h : ArgIs Tryz.prog 22 x) : ∃ (a : SA) (zs : List MZ), x = .sl a zs.length /\ Imm 4 a zs.length (zs.flatMap MZ.cs) /\ ∀ z ∈ zs, z.ok := by
 have c4 : Tryz.prog.cellsOf 73 = 4 := by kernel_rfl
 obtain ⟨a, els, e, _, ia, ha⟩ := ClsSl (d := 11) Tryz.underlying22 (argSl Tryz.underlying22 h) (fun el hel => by obtain ⟨z, rfl, _⟩ := make_in (d := 8) hel; rw [c4]; rfl)
 simp only [List.cons.injEq, and_true] at e
 obtain ⟨zs, h1, h2, h3⟩ := makes_in (d := 8) ha
 rw [c4, <- h1, <- h2] at ia
 exact ⟨a, zs, by rw [e, h1], ia, h3⟩
end Go.Abs.Tryz
