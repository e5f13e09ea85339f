/-
  Layer 19: roots are frames and two times handles in one memory. No conditions.
-/
import Derived.Test.YtgmffmgbaelohaaGreatM18
import Derived.Test.YtgmffmgbaelohaaGreatM17
import Derived.Test.YtgmffmgbaelohaaGreatR19
set_option linter.unusedVariables false
set_option linter.unusedSimpArgs false
set_option linter.constructorNameAsVariable false
set_option linter.unusedSimpArgs false
set_option linter.unusedVariables false
set_option linter.unusedSectionVars false
set_option maxHeartbeats 1000000
namespace Go.Abs.Tryz
open Go Go.Abs
variable {O : Type}
theorem FrmAt.by {J J' : AH O} {fb mb : Nat} {M M' : MemS} {S : FrmS} {w : List Int} {X : List Nat} (h : FrmAt J fb mb M S w X) (mi : MemIn J' mb M' (fb :: X)) (hb : J'.blk fb = J.blk fb) (hw : wordsOf M'.sp S.id = wordsOf M.sp S.id) : FrmAt J' fb mb M' S w X :=
 { h with mi := mi, b := hb.trans h.b, now := hw.trans h.now }
structure RtB where
 mb : Nat
 rb : Nat
 fb : Nat
 gb : Nat
 gp : Nat
 kb : Nat
 kp : Nat
structure RootAt (J : AH O) (B : RtB) (M : MemS) (F : FrmS) (wF : List Int) (P : PoolS) (C : List Nat) (w : List Int) (P2 : PoolS) (C2 : List Nat) (w2 : List Int) (X : List Nat) : Prop where
 f : FrmAt J B.fb B.mb M F wF (B.rb :: B.gb :: B.gp :: B.kb :: B.kp :: X)
 g : HanAt J B.gb B.gp B.mb M P C w (B.rb :: B.fb :: B.kb :: B.kp :: X)
 k : HanAt J B.kb B.kp B.mb M P2 C2 w2 (B.rb :: B.fb :: B.gb :: B.gp :: X)
 b : ∃ el, J.blk B.rb = some (.cells true el [.p (some (.n B.fb, 0)), .p (some (.n B.gb, 0)), .p (some (.n B.kb, 0))])
 ne : F.id ≠ P.id /\ F.id ≠ P2.id /\ P.id ≠ P2.id
 nx : B.rb ∉ X
section
variable {J : AH O} {B : RtB} {M : MemS} {F : FrmS} {wF : List Int} {P : PoolS} {C : List Nat} {w : List Int} {P2 : PoolS} {C2 : List Nat} {w2 : List Int} {X : List Nat} (R : RootAt J B M F wF P C w P2 C2 w2 X)
include R
theorem RootAt.onF {J' : AH O} {M' : MemS} {F' : FrmS} {wF' : List Int} {dr dw : Int} (f : FrmAt J' B.fb B.mb M' F' wF' (B.rb :: B.gb :: B.gp :: B.kb :: B.kp :: X)) (hid : F'.id = F.id) (hw : Wrt M M' F.id wF' dr dw) (hk : Keep (B.rb :: B.gb :: B.gp :: B.kb :: B.kp :: X) J J') : RootAt J' B M' F' wF' P C w P2 C2 w2 X := by
 obtain ⟨n1, n2, n3⟩ := R.ne
 have h0 := (wordsOf_some R.f.now).1
 refine ⟨f, R.g.by (f.mi.mono fun c hc => ?_) (hk.blk _ (by simp)) (hk.blk _ (by simp)) (hw.other h0 (fun e => n1 e.symm)), R.k.by (f.mi.mono fun c hc => ?_) (hk.blk _ (by simp)) (hk.blk _ (by simp)) (hw.other h0 (fun e => n2 e.symm)), by obtain ⟨el, hb⟩ := R.b; exact ⟨el, (hk.blk _ (by simp)).trans hb⟩, by rw [hid]; exact R.ne, R.nx⟩
 ·simp only [List.mem_cons] at hc ⊢
  rcases hc with h | h | h | h | h | h | h <;> simp [h]
 ·simp only [List.mem_cons] at hc ⊢
  rcases hc with h | h | h | h | h | h | h <;> simp [h]
theorem RootAt.onG {J' : AH O} {M' : MemS} {P' : PoolS} {C' : List Nat} {w' : List Int} {dr dw : Int} (g : HanAt J' B.gb B.gp B.mb M' P' C' w' (B.rb :: B.fb :: B.kb :: B.kp :: X)) (hid : P'.id = P.id) (hw : Wrt M M' P.id w' dr dw) (hk : Keep (B.rb :: B.fb :: B.kb :: B.kp :: X) J J') : RootAt J' B M' F wF P' C' w' P2 C2 w2 X := by
 obtain ⟨n1, n2, n3⟩ := R.ne
 have h0 := (wordsOf_some R.g.p.now).1
 refine ⟨R.f.by (g.p.mi.mono fun c hc => ?_) (hk.blk _ (by simp)) (hw.other h0 n1), g, R.k.by (g.p.mi.mono fun c hc => ?_) (hk.blk _ (by simp)) (hk.blk _ (by simp)) (hw.other h0 (fun e => n3 e.symm)), by obtain ⟨el, hb⟩ := R.b; exact ⟨el, (hk.blk _ (by simp)).trans hb⟩, by rw [hid]; exact R.ne, R.nx⟩
 ·simp only [List.mem_cons] at hc ⊢
  rcases hc with h | h | h | h | h | h | h <;> simp [h]
 ·simp only [List.mem_cons] at hc ⊢
  rcases hc with h | h | h | h | h | h | h <;> simp [h]
theorem RootAt.onK {J' : AH O} {M' : MemS} {P' : PoolS} {C' : List Nat} {w' : List Int} {dr dw : Int} (g : HanAt J' B.kb B.kp B.mb M' P' C' w' (B.rb :: B.fb :: B.gb :: B.gp :: X)) (hid : P'.id = P2.id) (hw : Wrt M M' P2.id w' dr dw) (hk : Keep (B.rb :: B.fb :: B.gb :: B.gp :: X) J J') : RootAt J' B M' F wF P C w P' C' w' X := by
 obtain ⟨n1, n2, n3⟩ := R.ne
 have h0 := (wordsOf_some R.k.p.now).1
 refine ⟨R.f.by (g.p.mi.mono fun c hc => ?_) (hk.blk _ (by simp)) (hw.other h0 n2), R.g.by (g.p.mi.mono fun c hc => ?_) (hk.blk _ (by simp)) (hk.blk _ (by simp)) (hw.other h0 n3), g, by obtain ⟨el, hb⟩ := R.b; exact ⟨el, (hk.blk _ (by simp)).trans hb⟩, by rw [hid]; exact R.ne, R.nx⟩
 ·simp only [List.mem_cons] at hc ⊢
  rcases hc with h | h | h | h | h | h | h <;> simp [h]
 ·simp only [List.mem_cons] at hc ⊢
  rcases hc with h | h | h | h | h | h | h <;> simp [h]
theorem RootAt.turn {J' : AH O} {Y L : List Nat} (hc : Chg L J J') (hl : ∀ b ∈ L, b ∈ X ∨ J.next <= b) (hY : ∀ b ∈ Y, b ∈ X ∨ (J.next <= b /\ b < J'.next)) : RootAt J' B M F wF P C w P2 C2 w2 Y := by
 have hlt : ∀ b, b ∈ B.fb :: B.rb :: B.gb :: B.gp :: B.kb :: B.kp :: X -> b < J.next := R.f.mi.lt
 have hmi : MemIn J' B.mb M (B.fb :: B.rb :: B.gb :: B.gp :: B.kb :: B.kp :: Y) := R.f.mi.turn hc (fun b hb => (hl b hb).imp (fun h => by simp [h]) id) fun b hb => by
  simp only [List.mem_cons] at hb
  rcases hb with h | h | h | h | h | h | h
  ·simp [h]
  ·simp [h]
  ·simp [h]
  ·simp [h]
  ·simp [h]
  ·simp [h]
  ·exact (hY b h).imp (fun h => by simp [h]) id
 have kp : ∀ b, b < J.next -> b ∉ L -> J'.blk b = J.blk b := hc.blk
 have nfb := R.f.nx
 have ngb := R.g.nx
 have ngp := R.g.p.nx
 have nkb := R.k.nx
 have nkp := R.k.p.nx
 simp only [List.mem_cons, not_or] at nfb ngb ngp nkb nkp
 have nrb := R.nx
 have hL : ∀ b ∈ L, b ≠ B.rb /\ b ≠ B.fb /\ b ≠ B.gb /\ b ≠ B.gp /\ b ≠ B.kb /\ b ≠ B.kp := fun b hb => by
  have h1 := hlt B.rb (by simp)
  have h2 := hlt B.fb (by simp)
  have h3 := hlt B.gb (by simp)
  have h4 := hlt B.gp (by simp)
  have h5 := hlt B.kb (by simp)
  have h6 := hlt B.kp (by simp)
  rcases hl b hb with h | h
  ·exact ⟨fun e => nrb (e ▸ h), fun e => nfb.2.2.2.2.2 (e ▸ h), fun e => ngb.2.2.2.2 (e ▸ h), fun e => ngp.2.2.2.2.2 (e ▸ h), fun e => nkb.2.2.2.2 (e ▸ h), fun e => nkp.2.2.2.2.2 (e ▸ h)⟩
  ·exact ⟨by omega, by omega, by omega, by omega, by omega, by omega⟩
 have key : ∀ b, b ∈ B.fb :: B.rb :: B.gb :: B.gp :: B.kb :: B.kp :: X -> b ∉ X -> b ∉ Y := fun b hb hx hy => by
  rcases hY b hy with h | h
  ·exact hx h
  ·have := hlt b hb; omega
 have n_f' : B.fb ∉ B.rb :: B.gb :: B.gp :: B.kb :: B.kp :: Y := fun hm => by
  simp only [List.mem_cons] at hm
  rcases hm with h | h | h | h | h | h
  ·exact nfb.1 h
  ·exact nfb.2.1 h
  ·exact nfb.2.2.1 h
  ·exact nfb.2.2.2.1 h
  ·exact nfb.2.2.2.2.1 h
  ·exact key _ (by simp) nfb.2.2.2.2.2 h
 have f' : FrmAt J' B.fb B.mb M F wF (B.rb :: B.gb :: B.gp :: B.kb :: B.kp :: Y) :=
  { R.f with mi := hmi, b := (kp _ (hlt _ (by simp)) fun hm => (hL _ hm).2.1 rfl).trans R.f.b, nx := n_f' }
 have n_pg : B.gp ∉ B.gb :: B.rb :: B.fb :: B.kb :: B.kp :: Y := fun hm => by
  simp only [List.mem_cons] at hm
  rcases hm with h | h | h | h | h | h
  ·exact ngp.1 h
  ·exact ngp.2.1 h
  ·exact ngp.2.2.1 h
  ·exact ngp.2.2.2.1 h
  ·exact ngp.2.2.2.2.1 h
  ·exact key _ (by simp) ngp.2.2.2.2.2 h
 have pg : PoolAt J' B.gp B.mb M P w (B.gb :: B.rb :: B.fb :: B.kb :: B.kp :: Y) :=
  { R.g.p with mi := hmi.mono (fun c hc => by simp only [List.mem_cons] at hc ⊢; rcases hc with h | h | h | h | h | h | h <;> simp [h]), b := (kp _ (hlt _ (by simp)) fun hm => (hL _ hm).2.2.2.1 rfl).trans R.g.p.b, nx := n_pg }
 have n_pk : B.kp ∉ B.kb :: B.rb :: B.fb :: B.gb :: B.gp :: Y := fun hm => by
  simp only [List.mem_cons] at hm
  rcases hm with h | h | h | h | h | h
  ·exact nkp.1 h
  ·exact nkp.2.1 h
  ·exact nkp.2.2.1 h
  ·exact nkp.2.2.2.1 h
  ·exact nkp.2.2.2.2.1 h
  ·exact key _ (by simp) nkp.2.2.2.2.2 h
 have pk : PoolAt J' B.kp B.mb M P2 w2 (B.kb :: B.rb :: B.fb :: B.gb :: B.gp :: Y) :=
  { R.k.p with mi := hmi.mono (fun c hc => by simp only [List.mem_cons] at hc ⊢; rcases hc with h | h | h | h | h | h | h <;> simp [h]), b := (kp _ (hlt _ (by simp)) fun hm => (hL _ hm).2.2.2.2.2 rfl).trans R.k.p.b, nx := n_pk }
 refine ⟨f', { R.g with p := pg, b := ?_, nx := fun hm => ?_ }, { R.k with p := pk, b := ?_, nx := fun hm => ?_ }, ?_, R.ne, key _ (by simp) nrb⟩
 ·obtain ⟨el, hb⟩ := R.g.b
  exact ⟨el, (kp _ (hlt _ (by simp)) fun hm => (hL _ hm).2.2.1 rfl).trans hb⟩
 ·simp only [List.mem_cons] at hm
  rcases hm with h | h | h | h | h
  ·exact ngb.1 h
  ·exact ngb.2.1 h
  ·exact ngb.2.2.1 h
  ·exact ngb.2.2.2.1 h
  ·exact key _ (by simp) ngb.2.2.2.2 h
 ·obtain ⟨el, hb⟩ := R.k.b
  exact ⟨el, (kp _ (hlt _ (by simp)) fun hm => (hL _ hm).2.2.2.2.1 rfl).trans hb⟩
 ·simp only [List.mem_cons] at hm
  rcases hm with h | h | h | h | h
  ·exact nkb.1 h
  ·exact nkb.2.1 h
  ·exact nkb.2.2.1 h
  ·exact nkb.2.2.2.1 h
  ·exact key _ (by simp) nkb.2.2.2.2 h
 ·obtain ⟨el, hb⟩ := R.b
  exact ⟨el, (kp _ (hlt _ (by simp)) fun hm => (hL _ hm).1 rfl).trans hb⟩
end
theorem slot_ok {J : AH O} {n : Int} (h : -9223372036854775808 <= n /\ n <= 9223372036854775807) : roots_Slot [.i .i64 n] J = some (.i .i64 (-1 - n), J) := by
 simp (maxSteps := 2000000) -implicitDefEqProofs (disch := (first | omega | rfl | assumption | (simp only [rsD]; first | omega | assumption))) only [roots_Slot, roots_Slot_c, Nat.reduceAdd, Nat.reduceMul, Nat.reduceLT, Int.reduceToNat, Int.reduceAdd, Int.reduceSub, Int.reduceMul, rsU, rsC]
abbrev Tk := Nat × Nat
def nmS (n : Nat) (T : List Tk) (k : Nat) : Int := if k < n then -1 - (k : Int) else match T[k - n]? with | some p => tok p.1 p.2 | none => 0
structure RV (n : Nat) (F : FrmS) (P : PoolS) (T : List Tk) (v : Nat -> Int) : Prop where
 f : ∃ f, F.L = [f] /\ f.length = n /\ ∀ k, k < n -> f[k]? = some (v k)
 t : ∀ j p, T[j]? = some p -> vw P.E p.1 = some (true, p.2, some (v (n + j)))
 nd : (T.map (·.1)).Nodup
def upd (v : Nat -> Int) (k : Nat) (x : Int) : Nat -> Int := fun j => if j = k then x else v j
theorem RV.get {n : Nat} {F : FrmS} {P : PoolS} {T : List Tk} {v : Nat -> Int} (V : RV n F P T v) {a b : Nat} {p q : Tk} (ha : T[a]? = some p) (hb : T[b]? = some q) (h : p.1 = q.1) : a = b := by
 have h1 : (T.map (·.1))[a]? = some p.1 := by rw [List.getElem?_map, ha]; rfl
 have h2 : (T.map (·.1))[b]? = some p.1 := by rw [List.getElem?_map, hb, h]; rfl
 exact nodup_at V.nd h1 h2
section
variable {J : AH O} {B : RtB} {M : MemS} {F : FrmS} {wF : List Int} {P : PoolS} {C : List Nat} {w : List Int} {P2 : PoolS} {C2 : List Nat} {w2 : List Int} {X : List Nat} (R : RootAt J B M F wF P C w P2 C2 w2 X) (hm : M.met.r + 2000 < 85070591730234615865843651857942052864 /\ M.met.w + 2000 < 85070591730234615865843651857942052864)
include R hm
theorem rget_ok {n : Nat} {T : List Tk} {v : Nat -> Int} (V : RV n F P T v) {k : Nat} (hk : k < n + T.length) (hn : n <= 256) : Ok (roots_Roots__Get [.p (some (.n B.rb, 0)), .i .i64 (nmS n T k)] J) fun r => r.1 = .tup [.i .u64 (v k), .i .i64 0] /\ ∃ M', RootAt r.2 B M' F wF P C w P2 C2 w2 X /\ M'.met.r <= M.met.r + 4 /\ M'.met.w = M.met.w /\ Keep X J r.2 := by
 obtain ⟨el, hb⟩ := R.b
 by_cases c : k < n
 ·obtain ⟨f, hL, hl, hf⟩ := V.f
  have e : nmS n T k = -1 - (k : Int) := by unfold nmS; rw [if_pos c]
  have sl := slot_ok (J := J) (n := -1 - (k : Int)) (by omega)
  rw [show -1 - (-1 - (k : Int)) = (k : Int) by omega] at sl
  have d0 := decide_eq_false (show ¬ (-1 - (k : Int) >= 0) by omega)
  rw [e]
  simp (maxSteps := 2000000) -implicitDefEqProofs (disch := (first | omega | rfl | assumption | (simp only [rsD]; first | omega | assumption))) only [roots_Roots__Get, roots_Roots__Get_c, hb, sl, d0, Nat.reduceAdd, Nat.reduceMul, Nat.reduceLT, Int.reduceToNat, Int.reduceAdd, Int.reduceSub, Int.reduceMul, rsU, rsC]
  refine Ok.step (fget_ok R.f ⟨by omega, by omega⟩ (slot := (k : Int)) hL (by omega) (by omega)) fun r ⟨k1, M1, k2, k3, k4⟩ => ?_
  obtain ⟨q, J1⟩ := r
  simp only at k1 k2 k4
  rw [Int.toNat_natCast, List.getD_eq_getElem?_getD, hf k c] at k1
  simp only [Option.getD_some] at k1
  subst k1
  have r1 := k3.r
  have v1 := k3.w
  simp (maxSteps := 2000000) -implicitDefEqProofs (disch := (first | omega | rfl | assumption | (simp only [rsD]; first | omega | assumption))) only [Nat.reduceAdd, Nat.reduceMul, Nat.reduceLT, Int.reduceToNat, Int.reduceAdd, Int.reduceSub, Int.reduceMul, rsU, rsC]
  exact Ok_some.2 ⟨rfl, M1, R.onF k2 rfl k3 k4, by omega, by omega, k4.mono fun b hb => by simp [hb]⟩
 ·obtain ⟨p, hp⟩ : ∃ p, T[k - n]? = some p := ⟨_, List.getElem?_eq_getElem (by omega)⟩
  have e : nmS n T k = tok p.1 p.2 := by unfold nmS; rw [if_neg c, hp]
  have hv := V.t _ _ hp
  rw [show n + (k - n) = k by omega] at hv
  have d0 := decide_eq_true (show tok p.1 p.2 >= 0 by unfold tok; omega)
  rw [e]
  simp (maxSteps := 2000000) -implicitDefEqProofs (disch := (first | omega | rfl | assumption | (simp only [rsD]; first | omega | assumption))) only [roots_Roots__Get, roots_Roots__Get_c, hb, d0, Nat.reduceAdd, Nat.reduceMul, Nat.reduceLT, Int.reduceToNat, Int.reduceAdd, Int.reduceSub, Int.reduceMul, rsU, rsC]
  refine Ok.step (hget_ok R.g ⟨by omega, by omega⟩ hv) fun r ⟨k1, M1, k2, k3, k4⟩ => ?_
  obtain ⟨q, J1⟩ := r
  simp only at k1 k2 k4
  subst k1
  have r1 := k3.r
  have v1 := k3.w
  simp (maxSteps := 2000000) -implicitDefEqProofs (disch := (first | omega | rfl | assumption | (simp only [rsD]; first | omega | assumption))) only [Nat.reduceAdd, Nat.reduceMul, Nat.reduceLT, Int.reduceToNat, Int.reduceAdd, Int.reduceSub, Int.reduceMul, rsU, rsC]
  exact Ok_some.2 ⟨rfl, M1, R.onG k2 rfl k3 k4, by omega, by omega, k4.mono fun b hb => by simp [hb]⟩
theorem rset_ok {n : Nat} {T : List Tk} {v : Nat -> Int} (V : RV n F P T v) {k : Nat} (hk : k < n + T.length) (hn : n <= 256) {x : Int} : Ok (roots_Roots__Set [.p (some (.n B.rb, 0)), .i .i64 (nmS n T k), .i .u64 x] J) fun r => r.1 = .i .i64 0 /\ ∃ M' F' wF' P' w', RootAt r.2 B M' F' wF' P' C w' P2 C2 w2 X /\ RV n F' P' T (upd v k x) /\ F'.L.length = 1 /\ M'.met.r <= M.met.r + 4 /\ M'.met.w <= M.met.w + 4 /\ Keep X J r.2 := by
 obtain ⟨el, hb⟩ := R.b
 obtain ⟨f, hL, hl, hf⟩ := V.f
 by_cases c : k < n
 ·have e : nmS n T k = -1 - (k : Int) := by unfold nmS; rw [if_pos c]
  have sl := slot_ok (J := J) (n := -1 - (k : Int)) (by omega)
  rw [show -1 - (-1 - (k : Int)) = (k : Int) by omega] at sl
  have d0 := decide_eq_false (show ¬ (-1 - (k : Int) >= 0) by omega)
  rw [e]
  simp (maxSteps := 2000000) -implicitDefEqProofs (disch := (first | omega | rfl | assumption | (simp only [rsD]; first | omega | assumption))) only [roots_Roots__Set, roots_Roots__Set_c, hb, sl, d0, Nat.reduceAdd, Nat.reduceMul, Nat.reduceLT, Int.reduceToNat, Int.reduceAdd, Int.reduceSub, Int.reduceMul, rsU, rsC]
  refine Ok.step (fset_ok R.f ⟨by omega, by omega⟩ (slot := (k : Int)) (x := x) hL (by omega) (by omega)) fun r ⟨k1, M1, w1, k2, k3, k4⟩ => ?_
  obtain ⟨q, J1⟩ := r
  simp only at k1 k2 k4
  subst k1
  have r1 := k3.r
  have v1 := k3.w
  simp (maxSteps := 2000000) -implicitDefEqProofs (disch := (first | omega | rfl | assumption | (simp only [rsD]; first | omega | assumption))) only [Nat.reduceAdd, Nat.reduceMul, Nat.reduceLT, Int.reduceToNat, Int.reduceAdd, Int.reduceSub, Int.reduceMul, rsU, rsC]
  refine Ok_some.2 ⟨rfl, M1, _, w1, P, w, R.onF k2 rfl k3 k4, ⟨⟨_, rfl, by rw [List.length_set]; exact hl, fun j hj => ?_⟩, fun j p hp => ?_, V.nd⟩, rfl, by omega, by omega, k4.mono fun b hb => by simp [hb]⟩
  ·rw [Int.toNat_natCast, List.getElem?_set]
   unfold upd
   by_cases cj : k = j
   ·subst cj; simp [hl, c]
   ·rw [if_neg cj, if_neg (fun e => cj e.symm)]; exact hf j hj
  ·rw [V.t j p hp]; unfold upd; rw [if_neg (by omega)]
 ·obtain ⟨p, hp⟩ : ∃ p, T[k - n]? = some p := ⟨_, List.getElem?_eq_getElem (by omega)⟩
  have e : nmS n T k = tok p.1 p.2 := by unfold nmS; rw [if_neg c, hp]
  have hv := V.t _ _ hp
  have d0 := decide_eq_true (show tok p.1 p.2 >= 0 by unfold tok; omega)
  rw [e]
  simp (maxSteps := 2000000) -implicitDefEqProofs (disch := (first | omega | rfl | assumption | (simp only [rsD]; first | omega | assumption))) only [roots_Roots__Set, roots_Roots__Set_c, hb, d0, Nat.reduceAdd, Nat.reduceMul, Nat.reduceLT, Int.reduceToNat, Int.reduceAdd, Int.reduceSub, Int.reduceMul, rsU, rsC]
  refine Ok.step (hset_ok R.g ⟨by omega, by omega⟩ (x := x) hv) fun r ⟨k1, M1, w1, P1, k2, k3, k4, k5, k6, k7⟩ => ?_
  obtain ⟨q, J1⟩ := r
  simp only at k1 k2 k7
  subst k1
  have r1 := k6.r
  have v1 := k6.w
  simp (maxSteps := 2000000) -implicitDefEqProofs (disch := (first | omega | rfl | assumption | (simp only [rsD]; first | omega | assumption))) only [Nat.reduceAdd, Nat.reduceMul, Nat.reduceLT, Int.reduceToNat, Int.reduceAdd, Int.reduceSub, Int.reduceMul, rsU, rsC]
  refine Ok_some.2 ⟨rfl, M1, F, wF, P1, w1, R.onG k2 k3 k6 k7, ⟨⟨f, hL, hl, fun j hj => ?_⟩, fun j q hq => ?_, V.nd⟩, by rw [hL]; rfl, by omega, by omega, k7.mono fun b hb => by simp [hb]⟩
  ·unfold upd; rw [if_neg (by omega)]; exact hf j hj
  ·unfold upd
   by_cases cj : p.1 = q.1
   ·have : k - n = j := V.get hp hq cj
    subst this
    rw [hp] at hq; cases hq
    rw [k4, if_pos (by omega)]
   ·have : n + j ≠ k := fun e => by
     have : k - n = j := by omega
     subst this
     rw [hp] at hq; cases hq; exact cj rfl
    rw [k5 _ (fun e => cj e.symm), if_neg this]
    exact V.t j q hq
theorem radd_ok {n : Nat} {T : List Tk} {v : Nat -> Int} (V : RV n F P T v) (hv : v (n + T.length) = 0) (hE : P.E.length <= 5) (hR : P.room <= 160) (hg : ∀ e ∈ P.E, e.gen <= 5) : Ok (roots_Roots__Add [.p (some (.n B.rb, 0))] J) fun r => ∃ p : Tk, ∃ M' P' w', r.1 = .tup [.i .i64 (tok p.1 p.2), .i .i64 0] /\ RootAt r.2 B M' F wF P' (C ++ [p.1]) w' P2 C2 w2 X /\ RV n F P' (T ++ [p]) v /\ HCame P P' p.1 p.2 0 /\ M'.met.r <= M.met.r + 16 /\ M'.met.w <= M.met.w + 16 /\ Keep X J r.2 := by
 obtain ⟨el, hb⟩ := R.b
 have hmore : P.more <= 160 := by
  have := R.g.p.p.made
  unfold PoolS.more; split <;> omega
 simp (maxSteps := 2000000) -implicitDefEqProofs (disch := (first | omega | rfl | assumption | (simp only [rsD]; first | omega | assumption))) only [roots_Roots__Add, roots_Roots__Add_c, hb, Nat.reduceAdd, Nat.reduceMul, Nat.reduceLT, Int.reduceToNat, Int.reduceAdd, Int.reduceSub, Int.reduceMul, rsU, rsC]
 refine Ok.step (hadd_ok R.g ⟨by omega, by omega⟩ (x := 0) (by omega) (by omega) fun e he => by have := hg e he; omega) fun r ⟨i, g, P1, p1, c, M1, w1, dr, dw, p2, p3, d1, d2, d3, p4⟩ => ?_
 obtain ⟨q, J1⟩ := r
 simp only at p1 p2 p4
 subst p1
 have r1 := p3.r
 have v1 := p3.w
 simp (maxSteps := 2000000) -implicitDefEqProofs (disch := (first | omega | rfl | assumption | (simp only [rsD]; first | omega | assumption))) only [Nat.reduceAdd, Nat.reduceMul, Nat.reduceLT, Int.reduceToNat, Int.reduceAdd, Int.reduceSub, Int.reduceMul, rsU, rsC]
 have hne : ∀ (j : Nat) (p : Tk), T[j]? = some p -> p.1 ≠ i := fun j p hp e => by
  have h1 := V.t j p hp
  rw [e] at h1
  rcases c.was with ⟨q, _⟩ | ⟨y, q⟩
  ·rw [q] at h1; cases h1
  ·rw [q] at h1; simp at h1
 refine Ok_some.2 ⟨(i, g), M1, P1, w1, rfl, R.onG p2 c.id p3 p4, ⟨V.f, fun j p hp => ?_, ?_⟩, c, by omega, by omega, p4.mono fun b hb => by simp [hb]⟩
 ·rcases Nat.lt_or_ge j T.length with hj | hj
  ·rw [List.getElem?_append_left hj] at hp
   rw [c.other _ (hne j p hp)]
   exact V.t j p hp
  ·rw [List.getElem?_append_right hj] at hp
   have hj0 : j - T.length = 0 := by
    have := (List.getElem?_eq_some_iff.1 hp).1
    simp at this; omega
   rw [hj0] at hp
   simp at hp
   subst hp
   rw [show j = T.length by omega, hv]
   exact c.now
 ·rw [List.map_append, List.nodup_append]
  refine ⟨V.nd, by simp, fun a ha b hb e => ?_⟩
  simp at hb
  obtain ⟨p, hp, rfl⟩ := List.mem_map.1 ha
  obtain ⟨j, hj⟩ := List.getElem?_of_mem hp
  exact hne j p hj (e.trans hb)
end
def mem1 : MemS := MemS.new.opn (ff MemS.new.sp) 0
def mem2 : MemS := mem1.opn (ff mem1.sp) 0
def mem3 : MemS := mem2.opn (ff mem2.sp) 0
theorem made19_ok {J : AH O} {X : List Nat} (hX : ∀ b ∈ X, b < J.next) : Ok (law19_made [] J) fun r => ∃ B : RtB, ∃ F P P2, r.1 = .tup [.p (some (.n B.rb, 0)), .b true] /\ RootAt r.2 B mem3 F [] P [] [] P2 [] [] X /\ F = ⟨0, 0, []⟩ /\ P = ⟨1, 3, 0, [], [], 0⟩ /\ P2 = ⟨2, 3, 0, [], [], 0⟩ /\ Keep X J r.2 := by
 simp (maxSteps := 2000000) -implicitDefEqProofs (disch := (first | omega | rfl | assumption | (simp only [rsD]; first | omega | assumption))) only [law19_made, law19_made_c, Nat.reduceAdd, Nat.reduceMul, Nat.reduceLT, Int.reduceToNat, Int.reduceAdd, Int.reduceSub, Int.reduceMul, rsU, rsC]
 refine Ok.step (newX hX) fun r ⟨g1, g2, g3⟩ => ?_
 obtain ⟨q, J1⟩ := r
 simp only at g1 g2 g3
 subst g1
 have K1 : Keep X J J1 := ⟨g3.next, fun b hb => g3.blk b (hX b hb)⟩
 simp (maxSteps := 2000000) -implicitDefEqProofs (disch := (first | omega | rfl | assumption | (simp only [rsD]; first | omega | assumption))) only [Option.isNone_some, roots_New, roots_New_c, Nat.reduceAdd, Nat.reduceMul, Nat.reduceLT, Int.reduceToNat, Int.reduceAdd, Int.reduceSub, Int.reduceMul, rsU, rsC]
 refine Ok.step (fnew_ok g2 ⟨by decide, by decide⟩ (by decide)) fun r ⟨fb, k1, k2, k3, k4⟩ => ?_
 obtain ⟨q, J2⟩ := r
 simp only at k1 k2 k4
 subst k1
 have e0 : ((0 : Int) != 0) = false := rfl
 simp (maxSteps := 2000000) -implicitDefEqProofs (disch := (first | omega | rfl | assumption | (simp only [rsD]; first | omega | assumption))) only [e0, Nat.reduceAdd, Nat.reduceMul, Nat.reduceLT, Int.reduceToNat, Int.reduceAdd, Int.reduceSub, Int.reduceMul, rsU, rsC]
 have hlf := k2.lt
 refine Ok.step (hnew_ok k2.mi ⟨by decide, by decide⟩ (by decide)) fun r ⟨gb, gp, l1, l2, l3, l4⟩ => ?_
 obtain ⟨q, J3⟩ := r
 simp only at l1 l2 l4
 subst l1
 have hlg := l2.lt
 have hlp := l2.p.lt
 simp (maxSteps := 2000000) -implicitDefEqProofs (disch := (first | omega | rfl | assumption | (simp only [rsD]; first | omega | assumption))) only [e0, Nat.reduceAdd, Nat.reduceMul, Nat.reduceLT, Int.reduceToNat, Int.reduceAdd, Int.reduceSub, Int.reduceMul, rsU, rsC]
 refine Ok.step (hnew_ok (X := gb :: gp :: fb :: X) (l2.p.mi.mono fun b hb => by simp only [List.mem_cons] at hb ⊢; rcases hb with h | h | h | h <;> simp [h]) ⟨by decide, by decide⟩ (by decide)) fun r ⟨kb, kp, m1, m2, m3, m4⟩ => ?_
 obtain ⟨q, J4⟩ := r
 simp only at m1 m2 m4
 subst m1
 have hmi := m2.p.mi
 have lb : ∀ b, b ∈ kp :: kb :: gb :: gp :: fb :: X -> b < J4.next := hmi.lt
 have nfb := k2.nx
 have nkb := m2.nx
 have nkp := m2.p.nx
 have ngb := l2.nx
 have ngp := l2.p.nx
 simp only [List.mem_cons, not_or] at nkb nkp ngb ngp
 obtain ⟨nkb1, nkb2, nkb3, nkb4⟩ := nkb
 obtain ⟨nkp1, nkp2, nkp3, nkp4, nkp5⟩ := nkp
 obtain ⟨ngb1, ngb2⟩ := ngb
 obtain ⟨ngp1, ngp2, ngp3⟩ := ngp
 simp (maxSteps := 2000000) -implicitDefEqProofs (disch := (first | omega | rfl | assumption | (simp only [rsD]; first | omega | assumption))) only [e0, Option.isNone_some, Nat.reduceAdd, Nat.reduceMul, Nat.reduceLT, Int.reduceToNat, Int.reduceAdd, Int.reduceSub, Int.reduceMul, rsU, rsC]
 generalize hJ : (J4.bump 1).put J4.next (.cells true _ _) = J5
 obtain ⟨E5, b5, n5⟩ := boxed hJ
 clear hJ
 have hfb := lb fb (by simp)
 have hgb := lb gb (by simp)
 have hgp := lb gp (by simp)
 have hkb := lb kb (by simp)
 have hkp := lb kp (by simp)
 have e00 : ((0 : Int) == 0) = true := rfl
 change FrmAt J2 fb J.next mem1 ⟨0, 0, []⟩ [] X at k2
 change HanAt J3 gb gp J.next mem2 ⟨1, 3, 0, [], [], 0⟩ [] [] (fb :: X) at l2
 change HanAt J4 kb kp J.next mem3 ⟨2, 3, 0, [], [], 0⟩ [] [] (gb :: gp :: fb :: X) at m2
 change MemIn J4 J.next mem3 (kp :: kb :: gb :: gp :: fb :: X) at hmi
 have mi5 : MemIn J5 J.next mem3 (J4.next :: kp :: kb :: gb :: gp :: fb :: X) := hmi.new E5 (Nat.le_refl _) (by omega)
 have bf : J5.blk fb = J2.blk fb := (E5.blk fb hfb).trans ((m4.blk fb (by simp)).trans (l4.blk fb (by simp)))
 have bg : J5.blk gb = J3.blk gb := (E5.blk gb hgb).trans (m4.blk gb (by simp))
 have bp : J5.blk gp = J3.blk gp := (E5.blk gp hgp).trans (m4.blk gp (by simp))
 have bk : J5.blk kb = J4.blk kb := E5.blk kb hkb
 have bq : J5.blk kp = J4.blk kp := E5.blk kp hkp
 have sub : ∀ {l : List Nat}, (∀ b ∈ l, b = J4.next ∨ b = kp ∨ b = kb ∨ b = gb ∨ b = gp ∨ b = fb ∨ b ∈ X) -> MemIn J5 J.next mem3 l := fun h => mi5.mono fun b hb => by
  rcases h b hb with h | h | h | h | h | h | h <;> simp [h]
 have K5 : Keep X J4 J5 := ⟨E5.next, fun b hb => E5.blk b (lb b (by simp [hb]))⟩
 refine Ok_some.2 ⟨⟨J.next, J4.next, fb, gb, gp, kb, kp⟩, ⟨0, 0, []⟩, ⟨1, 3, 0, [], [], 0⟩, ⟨2, 3, 0, [], [], 0⟩, rfl, ⟨⟨sub ?_, bf.trans k2.b, ?_, rfl, rfl, k2.pow, k2.pre, k2.len⟩, { l2 with p := { l2.p with mi := sub ?_, b := bp.trans l2.p.b, nx := ?_, now := rfl }, b := ?_, nx := ?_ }, { m2 with p := { m2.p with mi := sub ?_, b := bq.trans m2.p.b, nx := ?_, now := rfl }, b := ?_, nx := ?_ }, ⟨_, b5⟩, by decide, fun hm => by have := lb J4.next (by simp [hm]); omega⟩, rfl, rfl, rfl, (((K1.trans k4).trans l4.tail).trans m4.tail.tail.tail).trans K5⟩
 ·intro b hb; simp only [List.mem_cons] at hb; rcases hb with h | h | h | h | h | h | h <;> simp [h]
 ·simp only [List.mem_cons, not_or]; exact ⟨by omega, by omega, by omega, by omega, by omega, nfb⟩
 ·intro b hb; simp only [List.mem_cons] at hb; rcases hb with h | h | h | h | h | h | h <;> simp [h]
 ·simp only [List.mem_cons, not_or]; exact ⟨by omega, by omega, by omega, by omega, by omega, ngp3⟩
 ·obtain ⟨el, h⟩ := l2.b
  exact ⟨el, bg.trans h⟩
 ·simp only [List.mem_cons, not_or]; exact ⟨by omega, by omega, by omega, by omega, ngb2⟩
 ·intro b hb; simp only [List.mem_cons] at hb; rcases hb with h | h | h | h | h | h | h <;> simp [h]
 ·simp only [List.mem_cons, not_or]; exact ⟨by omega, by omega, by omega, by omega, by omega, nkp5⟩
 ·obtain ⟨el, h⟩ := m2.b
  exact ⟨el, bk.trans h⟩
 ·simp only [List.mem_cons, not_or]; exact ⟨by omega, by omega, by omega, by omega, nkb4⟩
theorem rcharge_ok {J : AH O} {B : RtB} {M : MemS} {F : FrmS} {wF : List Int} {P : PoolS} {C : List Nat} {w : List Int} {P2 : PoolS} {C2 : List Nat} {w2 : List Int} {X : List Nat} (R : RootAt J B M F wF P C w P2 C2 w2 X) : roots_Roots__Charge [.p (some (.n B.rb, 0))] J = some (.i .i64 ((wds F.L : Int) + 4 * ((C.length : Int) + (C2.length : Int))), J) := by
 obtain ⟨el, hb⟩ := R.b
 have h1 := R.f.le
 have h2 := R.f.wle
 have h3 := R.g.cl
 have h4 := R.k.cl
 have fw := fwords_ok R.f
 have c1 := hcount_ok R.g
 have c2 := hcount_ok R.k
 simp (maxSteps := 2000000) -implicitDefEqProofs (disch := (first | omega | rfl | assumption | (simp only [rsD]; first | omega | assumption))) only [roots_Roots__Charge, roots_Roots__Charge_c, hb, fw, c1, c2, Nat.reduceAdd, Nat.reduceMul, Nat.reduceLT, Int.reduceToNat, Int.reduceAdd, Int.reduceSub, Int.reduceMul, rsU, rsC]
theorem rpush_ok {J : AH O} {B : RtB} {M : MemS} {F : FrmS} {wF : List Int} {P : PoolS} {C : List Nat} {w : List Int} {P2 : PoolS} {C2 : List Nat} {w2 : List Int} {X : List Nat} (R : RootAt J B M F wF P C w P2 C2 w2 X) (hm : M.met.r = 0 /\ M.met.w = 0) (hF : F.L = []) {n : Nat} (hn : n <= 256) :
  Ok (frames_Frames__Push [.p (some (.n B.fb, 0)), .i .i64 (n : Int)] J) fun r => r.1 = .i .i64 0 /\ ∃ M' F' wF', RootAt r.2 B M' F' wF' P C w P2 C2 w2 X /\ RV n F' P [] (fun _ => 0) /\ M'.met.r = 0 /\ M'.met.w <= 300 /\ Keep X J r.2 := by
 refine (fpush_ok R.f ⟨by omega, by omega⟩ hn (by rw [hF]; show 0 + _ <= _; omega) (by omega)).mono fun r ⟨g1, M', room', w', g2, g3, g4, g5⟩ => ?_
 have r1 := g4.r
 have v1 := g4.w
 exact ⟨g1, M', _, w', R.onF g2 rfl g4 g5, ⟨⟨List.replicate n 0, by rw [hF], by simp, fun k hk => by rw [List.getElem?_replicate, if_pos hk]⟩, by simp, by simp⟩, by omega, by omega, g5.mono fun b hb => by simp [hb]⟩
theorem awake19_ok {J : AH O} {X : List Nat} (hX : ∀ b ∈ X, b < J.next) : Ok (law19_awake [] J) fun r => r.1 = .b true /\ Keep X J r.2 := by
 simp (maxSteps := 2000000) -implicitDefEqProofs (disch := (first | omega | rfl | assumption | (simp only [rsD]; first | omega | assumption))) only [law19_awake, law19_awake_c, Nat.reduceAdd, Nat.reduceMul, Nat.reduceLT, Int.reduceToNat, Int.reduceAdd, Int.reduceSub, Int.reduceMul, rsU, rsC]
 refine Ok.step (made19_ok hX) fun r ⟨B, F, P, P2, g1, R, g2, g3, g4, K1⟩ => ?_
 obtain ⟨q, J1⟩ := r
 simp only at g1 R K1
 subst g1
 obtain ⟨el, hb⟩ := R.b
 simp (maxSteps := 2000000) -implicitDefEqProofs (disch := (first | omega | rfl | assumption | (simp only [rsD]; first | omega | assumption))) only [hb, Nat.reduceAdd, Nat.reduceMul, Nat.reduceLT, Int.reduceToNat, Int.reduceAdd, Int.reduceSub, Int.reduceMul, rsU, rsC]
 have m0 : mem3.met.r = 0 /\ mem3.met.w = 0 := ⟨rfl, rfl⟩
 have pu := rpush_ok R m0 (by rw [g2]) (n := 2) (by decide)
 rw [show ((2 : Nat) : Int) = 2 from rfl] at pu
 refine Ok.step pu fun r ⟨k1, M2, F2, w2, R2, V2, k2, k3, K2⟩ => ?_
 obtain ⟨q, J2⟩ := r
 simp only at k1 R2 K2
 subst k1
 simp (maxSteps := 2000000) -implicitDefEqProofs (disch := (first | omega | rfl | assumption | (simp only [rsD]; first | omega | assumption))) only [Nat.reduceAdd, Nat.reduceMul, Nat.reduceLT, Int.reduceToNat, Int.reduceAdd, Int.reduceSub, Int.reduceMul, rsU, rsC]
 refine Ok.step (radd_ok R2 ⟨by omega, by omega⟩ V2 rfl (by rw [g3]; simp) (by rw [g3]; simp) (by rw [g3]; simp)) fun r ⟨p, M3, P3, w3, l1, R3, V3, c, l2, l3, K3⟩ => ?_
 obtain ⟨q, J3⟩ := r
 simp only at l1 R3 K3
 subst l1
 have hp : tok p.1 p.2 = 0 := by
  have h1 := c.len
  rw [g3] at h1
  simp only [List.length_nil] at h1
  obtain ⟨e, he, _⟩ := vw_some c.now
  have h2 := (List.getElem?_eq_some_iff.1 he).1
  have h3 : p.2 = 0 := by
   rcases c.was with ⟨_, e⟩ | ⟨y, e⟩
   ·exact e
   ·rw [g3] at e; simp [vw] at e
  unfold tok
  rw [h3]; omega
 simp (maxSteps := 2000000) -implicitDefEqProofs (disch := (first | omega | rfl | assumption | (simp only [rsD]; first | omega | assumption))) only [hp, Nat.reduceAdd, Nat.reduceMul, Nat.reduceLT, Int.reduceToNat, Int.reduceAdd, Int.reduceSub, Int.reduceMul, rsU, rsC]
 have st := rset_ok R3 ⟨by omega, by omega⟩ V3 (k := 1) (x := 5) (by simp) (by decide)
 rw [show nmS 2 ([] ++ [p]) 1 = -2 from rfl] at st
 refine Ok.step st fun r ⟨m1, M4, F4, wF4, P4, w4, R4, V4, m2, m3, m4, K4⟩ => ?_
 obtain ⟨q, J4⟩ := r
 simp only at m1 R4 K4
 subst m1
 simp (maxSteps := 2000000) -implicitDefEqProofs (disch := (first | omega | rfl | assumption | (simp only [rsD]; first | omega | assumption))) only [Nat.reduceAdd, Nat.reduceMul, Nat.reduceLT, Int.reduceToNat, Int.reduceAdd, Int.reduceSub, Int.reduceMul, rsU, rsC]
 have gt := rget_ok R4 ⟨by omega, by omega⟩ V4 (k := 1) (by simp) (by decide)
 rw [show nmS 2 ([] ++ [p]) 1 = -2 from rfl, show upd (fun _ => 0) 1 5 1 = 5 from rfl] at gt
 refine Ok.step gt fun r ⟨n1, M5, R5, n2, n3, K5⟩ => ?_
 obtain ⟨q, J5⟩ := r
 simp only at n1 R5 K5
 subst n1
 have ch := rcharge_ok R5
 obtain ⟨f, hf1, hf2, _⟩ := V4.f
 have hw : (wds F4.L : Int) = 4 := by rw [hf1]; simp only [wds, hf2]; rfl
 rw [hw] at ch
 simp only [List.nil_append, List.length_cons, List.length_nil] at ch
 have sl := slot_ok (J := J5) (n := 1) (by omega)
 have e1 : ((0 : Int) == 0) = true := rfl
 have e2 : ((5 : Int) == 5) = true := rfl
 have e3 : (((4 : Int) + 4 * (((0 + 1 : Nat) : Int) + ((0 : Nat) : Int))) == 8) = true := rfl
 have e4 : (((-1 : Int) - 1) == -2) = true := rfl
 simp (maxSteps := 2000000) -implicitDefEqProofs (disch := (first | omega | rfl | assumption | (simp only [rsD]; first | omega | assumption))) only [e1, e2, ch, e3, sl, e4, Nat.reduceAdd, Nat.reduceMul, Nat.reduceLT, Int.reduceToNat, Int.reduceAdd, Int.reduceSub, Int.reduceMul, rsU, rsC]
 exact Ok_some.2 ⟨rfl, (((K1.trans K2).trans K3).trans K4).trans K5⟩
section
variable {J : AH O} {B : RtB} {M : MemS} {F : FrmS} {wF : List Int} {P : PoolS} {C : List Nat} {w : List Int} {P2 : PoolS} {C2 : List Nat} {w2 : List Int} {X : List Nat} (R : RootAt J B M F wF P C w P2 C2 w2 X) (hm : M.met.r + 2000 < 85070591730234615865843651857942052864 /\ M.met.w + 2000 < 85070591730234615865843651857942052864)
include R hm
end
end Go.Abs.Tryz
set_option maxHeartbeats 2000000
namespace Go.Abs.Tryz
open Go Go.Abs
variable {O : Type}
def HS.getv (S : HS) (t : Int) : Int := match S.at t with | none => 0 | some i => (S.L.getD i (0, 0)).2
section
variable {J : AH O} {hb pb mb : Nat} {M : MemS} {P : PoolS} {C : List Nat} {w : List Int} {X : List Nat} {S : HS} {k : Nat} (h : HanAt J hb pb mb M P C w X) (sim : HSim S P C) (hm : M.met.r + 1000 < 85070591730234615865843651857942052864 /\ M.met.w + 1000 < 85070591730234615865843651857942052864) {t : Int} (ht : -9223372036854775808 <= t /\ t <= 9223372036854775807)
include h sim hm ht
theorem hget_sim : Ok (handles_Handles__Get [.p (some (.n hb, 0)), .i .i64 t] J) fun r => r.1 = .tup [.i .u64 (S.getv t), .i .i64 (S.code t)] /\ ∃ M' dr, HanAt r.2 hb pb mb M' P C w X /\ Wrt M M' P.id w dr 0 /\ 0 <= dr /\ dr <= 4 /\ Keep X J r.2 := by
 unfold HS.getv HS.code
 by_cases hy : ∃ i g x, vw P.E i = some (true, g, x) /\ t = tok i g
 ·obtain ⟨i, g, x, hv, rfl⟩ := hy
  obtain ⟨d, y, hd, hat, hL, rfl⟩ := sim.yes h hv
  rw [hat]
  refine (hget_ok h hm hv).mono fun r ⟨p1, M2, p3, q1, q5⟩ => ⟨?_, M2, 4, p3, q1, by decide, by decide, q5⟩
  rw [p1]
  simp only
  rw [List.getD_eq_getElem?_getD, hL]; rfl
 ·have hno : ∀ i g x, vw P.E i = some (true, g, x) -> t ≠ tok i g := fun i g x hv e => hy ⟨i, g, x, hv, e⟩
  rw [sim.no hno]
  exact (hget_no h hm ht hno).mono fun r ⟨p1, M2, dr, p3, q1, q2, q3, q5⟩ => ⟨p1, M2, dr, p3, q1, q2, by omega, q5⟩
theorem hset_sim {x : Int} : Ok (handles_Handles__Set [.p (some (.n hb, 0)), .i .i64 t, .i .u64 x] J) fun r => r.1 = .i .i64 (S.code t) /\ ∃ M' w' P' dr dw, HanAt r.2 hb pb mb M' P' C w' X /\ HSim (S.set t x) P' C /\ Like P P' /\ Wrt M M' P.id w' dr dw /\ 0 <= dr /\ 0 <= dw /\ dr + dw <= 4 /\ Keep X J r.2 := by
 unfold HS.code
 by_cases hy : ∃ i g x, vw P.E i = some (true, g, x) /\ t = tok i g
 ·obtain ⟨i, g, x, hv, rfl⟩ := hy
  obtain ⟨d, y, hd, hat, hL, rfl⟩ := sim.yes h hv
  rw [hat]
  exact (hsetx_ok h hm hv).mono fun r ⟨p1, M2, w2, P2, p3, p4, p5, p6, q1, q5⟩ => ⟨p1, M2, w2, P2, 3, 1, p3, sim.set p4 hd h.l.nd hat hL p5 p6, p4, q1, by decide, by decide, by decide, q5⟩
 ·have hno : ∀ i g x, vw P.E i = some (true, g, x) -> t ≠ tok i g := fun i g x hv e => hy ⟨i, g, x, hv, e⟩
  have hat := sim.no hno
  have hset : S.set t x = S := by unfold HS.set; rw [hat]
  rw [hat, hset]
  exact (hset_no h hm ht hno).mono fun r ⟨p1, M2, dr, p3, q1, q2, q3, q5⟩ => ⟨p1, M2, w, P, dr, 0, p3, sim, Like.refl P, q1, q2, by decide, by omega, q5⟩
theorem hdrop_sim (bd : HBd k P) (hk : k < 80) : Ok (handles_Handles__Drop [.p (some (.n hb, 0)), .i .i64 t] J) fun r => r.1 = .i .i64 (S.code t) /\ ∃ M' w' P' C' dr dw, HanAt r.2 hb pb mb M' P' C' w' X /\ HSim (S.drop t) P' C' /\ HBd (k + 1) P' /\ P'.id = P.id /\ Wrt M M' P.id w' dr dw /\ 0 <= dr /\ 0 <= dw /\ dr + dw <= 12 /\ Keep X J r.2 := by
 unfold HS.code
 by_cases hy : ∃ i g x, vw P.E i = some (true, g, x) /\ t = tok i g
 ·obtain ⟨i, g, x, hv, rfl⟩ := hy
  obtain ⟨d, y, hd, hat, hL, hxy⟩ := sim.yes h hv
  have hgk := bd.g _ _ _ _ hv
  rw [hat]
  refine (hdrop_ok h hm hv (by omega)).mono fun r ⟨p1, M2, w2, P2, d', dr, dw, p2, p3, p4, p5, p6, p7, p8, p9, q1, q2, q3, q4, q5⟩ => ?_
  obtain rfl : d' = d := nodup_at h.l.nd p2 hd
  obtain ⟨s1, s2⟩ := sim.drop bd hv hk hd h.l.nd hat p5 p6 p7 p8 p9
  exact ⟨p1, M2, w2, P2, _, dr, dw, p3, s1, s2, p4, q1, q2, q3, q4, q5⟩
 ·have hno : ∀ i g x, vw P.E i = some (true, g, x) -> t ≠ tok i g := fun i g x hv e => hy ⟨i, g, x, hv, e⟩
  have hat := sim.no hno
  have hset : S.drop t = S := by unfold HS.drop; rw [hat]
  rw [hat, hset]
  exact (hdrop_no h hm ht hno).mono fun r ⟨p1, M2, dr, p3, q1, q2, q3, q5⟩ => ⟨p1, M2, w, P, C, dr, 0, p3, sim, bd.up, rfl, q1, q2, by decide, by omega, q5⟩
end
theorem hadd_sim {J : AH O} {hb pb mb : Nat} {M : MemS} {P : PoolS} {C : List Nat} {w : List Int} {X : List Nat} {S : HS} {k : Nat} (h : HanAt J hb pb mb M P C w X) (sim : HSim S P C) (hm : M.met.r + 1000 < 85070591730234615865843651857942052864 /\ M.met.w + 1000 < 85070591730234615865843651857942052864) (bd : HBd k P) (hk : k < 80) {a b c : SA} (st : S.st a b c) {x : Int} :
  Ok (handles_Handles__Add [.p (some (.n hb, 0)), .i .u64 x] J) fun r => ∃ t S', r.1 = .tup [.i .i64 t, .i .i64 0] /\ (∀ J' : AH O, Ok (haymowref18_Add [.agg (S.vs a b c), .i .u64 x] J') fun q => (∃ v', q.1 = .tup [v', .i .i64 t] /\ HS.at_ S' v') /\ Ext J' q.2) /\ ∃ M' w' P' C' dr dw, HanAt r.2 hb pb mb M' P' C' w' X /\ HSim S' P' C' /\ HBd (k + 1) P' /\ P'.id = P.id /\ Wrt M M' P.id w' dr dw /\ 0 <= dr /\ 0 <= dw /\ dr + dw <= 16 /\ Keep X J r.2 := by
 have hce := h.ce
 have hbe := bd.e
 have hbr := bd.r
 have hll := sim.ll
 have hmd := h.p.p.made
 have hmore : P.more <= 160 := by
  unfold PoolS.more
  split
  ·exact hbr
  ·rw [Nat.max_def]; split <;> omega
 have hge : ∀ e ∈ P.E, e.gen < 4398046511103 := fun e he => by
  obtain ⟨j, hj⟩ := List.getElem?_of_mem he
  have := bd.g _ _ _ _ (vw_mk hj); omega
 refine (hadd_ok h hm (x := x) (by omega) (by omega) hge).mono fun r ⟨i, g, P1, p1, came, M1, w1, dr, dw, p2, p3, d1, d2, d3, p4⟩ => ?_
 obtain ⟨D', e', t1, t2, t3, t4, t5⟩ := sim.add bd hk h came st.d
 have hi := vw_len came.now
 have hlD := t4.len
 have hgk := t5.g _ _ _ _ came.now
 have hle := t5.e
 exact ⟨tok i g, ⟨D', S.L ++ [(tok i g, x)]⟩, p1, fun J' => rhadd_ok st (by omega) t1 t2 t3 (by omega) (by omega) (by simp only at hlD; omega), M1, w1, P1, _, dr, dw, p2, t4, t5, came.id, p3, d1, d2, d3, p4⟩
structure RX (J : AH O) (B : RtB) (S : RS) (X : List Nat) (k : Nat) (m : Int) : Prop where
 it : ∃ M F wF P C w P2 C2 w2, RootAt J B M F wF P C w P2 C2 w2 X /\ S.L = F.L /\ HSim S.G P C /\ HSim S.K P2 C2 /\ HBd k P /\ HBd k P2 /\ F.L.length <= k /\ 0 <= M.met.r /\ 0 <= M.met.w /\ M.met.r + M.met.w <= m
section
variable {J : AH O} {B : RtB} {S : RS} {X : List Nat} {k : Nat} {m : Int} (h : RX J B S X k m)
include h
theorem RX.sm (hk : k <= 80) : RSm S := by
 obtain ⟨M, F, wF, P, C, w, P2, C2, w2, R, hL, sg, sk, bg, bk, hn, _⟩ := h.it
 have h1 := R.g.ce
 have h2 := R.k.ce
 have h3 := bg.e
 have h4 := bk.e
 have h5 := sg.ll
 have h6 := sk.ll
 exact ⟨⟨by rw [hL]; omega, fun f hf => R.f.len f (by rw [<- hL]; exact hf)⟩, by omega, by omega⟩
theorem RX.turn {J' : AH O} {Y L : List Nat} (hc : Chg L J J') (hl : ∀ b ∈ L, b ∈ X ∨ J.next <= b) (hY : ∀ b ∈ Y, b ∈ X ∨ (J.next <= b /\ b < J'.next)) : RX J' B S Y k m := by
 obtain ⟨M, F, wF, P, C, w, P2, C2, w2, R, r⟩ := h.it
 exact ⟨M, F, wF, P, C, w, P2, C2, w2, R.turn hc hl hY, r⟩
theorem RX.lX : ∀ b ∈ X, b < J.next := by
 obtain ⟨M, F, wF, P, C, w, P2, C2, w2, R, r⟩ := h.it
 exact fun b hb => R.f.mi.lt b (by simp [hb])
theorem RX.up : RX J B S X (k + 1) m := by
 obtain ⟨M, F, wF, P, C, w, P2, C2, w2, R, hL, sg, sk, bg, bk, hn, r⟩ := h.it
 exact ⟨M, F, wF, P, C, w, P2, C2, w2, R, hL, sg, sk, bg.up, bk.up, by omega, r⟩
theorem rxcharge : roots_Roots__Charge [.p (some (.n B.rb, 0))] J = some (.i .i64 ((wds S.L : Int) + 4 * (S.G.L.length : Int) + 4 * (S.K.L.length : Int)), J) := by
 obtain ⟨M, F, wF, P, C, w, P2, C2, w2, R, hL, sg, sk, bg, bk, hn, r⟩ := h.it
 rw [rcharge_ok R, hL, sg.ll, sk.ll]
 congr 3
 omega
theorem rxglobals : roots_Roots__Globals [.p (some (.n B.rb, 0))] J = some (.i .i64 (S.G.L.length : Int), J) := by
 obtain ⟨M, F, wF, P, C, w, P2, C2, w2, R, hL, sg, sk, bg, bk, hn, r⟩ := h.it
 obtain ⟨el, hb⟩ := R.b
 have c1 := hcount_ok R.g
 simp (maxSteps := 2000000) -implicitDefEqProofs (disch := (first | omega | rfl | assumption | (simp only [rsD]; first | omega | assumption))) only [roots_Roots__Globals, roots_Roots__Globals_c, hb, c1, Nat.reduceAdd, Nat.reduceMul, Nat.reduceLT, Int.reduceToNat, Int.reduceAdd, Int.reduceSub, Int.reduceMul, rsU, rsC]
 rw [sg.ll]
theorem rxweaks : roots_Roots__Weaks [.p (some (.n B.rb, 0))] J = some (.i .i64 (S.K.L.length : Int), J) := by
 obtain ⟨M, F, wF, P, C, w, P2, C2, w2, R, hL, sg, sk, bg, bk, hn, r⟩ := h.it
 obtain ⟨el, hb⟩ := R.b
 have c1 := hcount_ok R.k
 simp (maxSteps := 2000000) -implicitDefEqProofs (disch := (first | omega | rfl | assumption | (simp only [rsD]; first | omega | assumption))) only [roots_Roots__Weaks, roots_Roots__Weaks_c, hb, c1, Nat.reduceAdd, Nat.reduceMul, Nat.reduceLT, Int.reduceToNat, Int.reduceAdd, Int.reduceSub, Int.reduceMul, rsU, rsC]
 rw [sk.ll]
theorem RX.frames : ∃ el a b, J.blk B.rb = some (.cells true el [.p (some (.n B.fb, 0)), a, b]) /\ frames_Frames__Depth [.p (some (.n B.fb, 0))] J = some (.i .i64 (S.L.length : Int), J) := by
 obtain ⟨M, F, wF, P, C, w, P2, C2, w2, R, hL, sg, sk, bg, bk, hn, r⟩ := h.it
 obtain ⟨el, hb⟩ := R.b
 exact ⟨el, _, _, hb, by rw [hL]; exact fdepth_ok R.f⟩
variable (hm : m <= 1000000000)
include hm
theorem rxget {name : Int} (hr : -9223372036854775808 <= name /\ name <= 9223372036854775807) : Ok (roots_Roots__Get [.p (some (.n B.rb, 0)), .i .i64 name] J) fun r => r.1 = .tup [.i .u64 (S.get name).1, .i .i64 (S.get name).2] /\ RX r.2 B S X k (m + 10) /\ Keep X J r.2 := by
 obtain ⟨M, F, wF, P, C, w, P2, C2, w2, R, hL, sg, sk, bg, bk, hn, m1, m2, m3⟩ := h.it
 obtain ⟨el, hb⟩ := R.b
 unfold RS.get
 by_cases c0 : name >= 0
 ·have d0 := decide_eq_true c0
  rw [if_pos c0]
  simp (maxSteps := 2000000) -implicitDefEqProofs (disch := (first | omega | rfl | assumption | (simp only [rsD]; first | omega | assumption))) only [roots_Roots__Get, roots_Roots__Get_c, hb, d0, Nat.reduceAdd, Nat.reduceMul, Nat.reduceLT, Int.reduceToNat, Int.reduceAdd, Int.reduceSub, Int.reduceMul, rsU, rsC]
  refine Ok.step (hget_sim R.g sg ⟨by omega, by omega⟩ hr) fun r ⟨p1, M1, dr, p2, p3, p4, p5, p6⟩ => ?_
  obtain ⟨q, J1⟩ := r
  simp only at p1 p2 p6
  subst p1
  have r1 := p3.r
  have v1 := p3.w
  simp (maxSteps := 2000000) -implicitDefEqProofs (disch := (first | omega | rfl | assumption | (simp only [rsD]; first | omega | assumption))) only [Nat.reduceAdd, Nat.reduceMul, Nat.reduceLT, Int.reduceToNat, Int.reduceAdd, Int.reduceSub, Int.reduceMul, rsU, rsC]
  refine Ok_some.2 ⟨?_, ⟨M1, F, wF, P, C, w, P2, C2, w2, R.onG p2 rfl p3 p6, hL, sg, sk, bg, bk, hn, by omega, by omega, by omega⟩, p6.mono fun b hb => by simp [hb]⟩
  unfold HS.getv HS.code
  cases S.G.at name <;> rfl
 ·have d0 := decide_eq_false c0
  have sl := slot_ok (J := J) (n := name) hr
  rw [if_neg c0]
  by_cases hw : fwrong S.L (-1 - name) = 0
  ·rw [if_pos hw]
   obtain ⟨f0, r0, hL0, h0, h1⟩ := fwrong_zero hw
   have hfl := R.f.len f0 (by rw [<- hL, hL0]; simp)
   simp (maxSteps := 2000000) -implicitDefEqProofs (disch := (first | omega | rfl | assumption | (simp only [rsD]; first | omega | assumption))) only [roots_Roots__Get, roots_Roots__Get_c, hb, sl, d0, Nat.reduceAdd, Nat.reduceMul, Nat.reduceLT, Int.reduceToNat, Int.reduceAdd, Int.reduceSub, Int.reduceMul, rsU, rsC]
   refine Ok.step (fget_ok R.f ⟨by omega, by omega⟩ (slot := -1 - name) (by rw [<- hL]; exact hL0) h0 h1) fun r ⟨p1, M1, p2, p3, p6⟩ => ?_
   obtain ⟨q, J1⟩ := r
   simp only at p1 p2 p6
   subst p1
   have r1 := p3.r
   have v1 := p3.w
   simp (maxSteps := 2000000) -implicitDefEqProofs (disch := (first | omega | rfl | assumption | (simp only [rsD]; first | omega | assumption))) only [Nat.reduceAdd, Nat.reduceMul, Nat.reduceLT, Int.reduceToNat, Int.reduceAdd, Int.reduceSub, Int.reduceMul, rsU, rsC]
   exact Ok_some.2 ⟨by rw [hL0]; rfl, ⟨M1, F, wF, P, C, w, P2, C2, w2, R.onF p2 rfl p3 p6, hL, sg, sk, bg, bk, hn, by omega, by omega, by omega⟩, p6.mono fun b hb => by simp [hb]⟩
  ·rw [if_neg hw]
   have fg := fget_bad R.f ⟨by omega, by omega⟩ (slot := -1 - name) (by rw [<- hL]; exact hw)
   rw [<- hL] at fg
   simp (maxSteps := 2000000) -implicitDefEqProofs (disch := (first | omega | rfl | assumption | (simp only [rsD]; first | omega | assumption))) only [roots_Roots__Get, roots_Roots__Get_c, hb, sl, d0, fg, Nat.reduceAdd, Nat.reduceMul, Nat.reduceLT, Int.reduceToNat, Int.reduceAdd, Int.reduceSub, Int.reduceMul, rsU, rsC]
   exact Ok_some.2 ⟨rfl, ⟨M, F, wF, P, C, w, P2, C2, w2, R, hL, sg, sk, bg, bk, hn, m1, m2, by omega⟩, Keep.refl _ _⟩
theorem rxset {name x : Int} (hr : -9223372036854775808 <= name /\ name <= 9223372036854775807) : Ok (roots_Roots__Set [.p (some (.n B.rb, 0)), .i .i64 name, .i .u64 x] J) fun r => r.1 = .i .i64 (S.set name x).2 /\ RX r.2 B (S.set name x).1 X (k + 1) (m + 10) /\ Keep X J r.2 := by
 obtain ⟨M, F, wF, P, C, w, P2, C2, w2, R, hL, sg, sk, bg, bk, hn, m1, m2, m3⟩ := h.it
 obtain ⟨el, hb⟩ := R.b
 unfold RS.set
 by_cases c0 : name >= 0
 ·have d0 := decide_eq_true c0
  rw [if_pos c0]
  simp (maxSteps := 2000000) -implicitDefEqProofs (disch := (first | omega | rfl | assumption | (simp only [rsD]; first | omega | assumption))) only [roots_Roots__Set, roots_Roots__Set_c, hb, d0, Nat.reduceAdd, Nat.reduceMul, Nat.reduceLT, Int.reduceToNat, Int.reduceAdd, Int.reduceSub, Int.reduceMul, rsU, rsC]
  refine Ok.step (hset_sim R.g sg ⟨by omega, by omega⟩ hr (x := x)) fun r ⟨p1, M1, w1, P1, dr, dw, p2, p7, p8, p3, p4, p4', p5, p6⟩ => ?_
  obtain ⟨q, J1⟩ := r
  simp only at p1 p2 p6
  subst p1
  have r1 := p3.r
  have v1 := p3.w
  simp (maxSteps := 2000000) -implicitDefEqProofs (disch := (first | omega | rfl | assumption | (simp only [rsD]; first | omega | assumption))) only [Nat.reduceAdd, Nat.reduceMul, Nat.reduceLT, Int.reduceToNat, Int.reduceAdd, Int.reduceSub, Int.reduceMul, rsU, rsC]
  exact Ok_some.2 ⟨rfl, ⟨M1, F, wF, P1, C, w1, P2, C2, w2, R.onG p2 p8.id p3 p6, hL, p7, sk, bg.like p8, bk.up, by omega, by omega, by omega, by omega⟩, p6.mono fun b hb => by simp [hb]⟩
 ·have d0 := decide_eq_false c0
  have sl := slot_ok (J := J) (n := name) hr
  rw [if_neg c0]
  by_cases hw : fwrong S.L (-1 - name) = 0
  ·rw [if_pos hw]
   obtain ⟨f0, r0, hL0, h0, h1⟩ := fwrong_zero hw
   have hFL : F.L = f0 :: r0 := by rw [<- hL]; exact hL0
   have hfl := R.f.len f0 (by rw [hFL]; simp)
   simp (maxSteps := 2000000) -implicitDefEqProofs (disch := (first | omega | rfl | assumption | (simp only [rsD]; first | omega | assumption))) only [roots_Roots__Set, roots_Roots__Set_c, hb, sl, d0, Nat.reduceAdd, Nat.reduceMul, Nat.reduceLT, Int.reduceToNat, Int.reduceAdd, Int.reduceSub, Int.reduceMul, rsU, rsC]
   refine Ok.step (fset_ok R.f ⟨by omega, by omega⟩ (slot := -1 - name) (x := x) hFL h0 h1) fun r ⟨p1, M1, w1, p2, p3, p6⟩ => ?_
   obtain ⟨q, J1⟩ := r
   simp only at p1 p2 p6
   subst p1
   have r1 := p3.r
   have v1 := p3.w
   simp (maxSteps := 2000000) -implicitDefEqProofs (disch := (first | omega | rfl | assumption | (simp only [rsD]; first | omega | assumption))) only [Nat.reduceAdd, Nat.reduceMul, Nat.reduceLT, Int.reduceToNat, Int.reduceAdd, Int.reduceSub, Int.reduceMul, rsU, rsC]
   refine Ok_some.2 ⟨rfl, ⟨M1, _, w1, P, C, w, P2, C2, w2, R.onF p2 rfl p3 p6, by rw [hL0]; rfl, sg, sk, bg.up, bk.up, ?_, by omega, by omega, by omega⟩, p6.mono fun b hb => by simp [hb]⟩
   rw [hFL] at hn
   simp at hn ⊢; omega
  ·rw [if_neg hw]
   have fg := fset_bad R.f ⟨by omega, by omega⟩ (slot := -1 - name) (x := x) (by rw [<- hL]; exact hw)
   rw [<- hL] at fg
   simp (maxSteps := 2000000) -implicitDefEqProofs (disch := (first | omega | rfl | assumption | (simp only [rsD]; first | omega | assumption))) only [roots_Roots__Set, roots_Roots__Set_c, hb, sl, d0, fg, Nat.reduceAdd, Nat.reduceMul, Nat.reduceLT, Int.reduceToNat, Int.reduceAdd, Int.reduceSub, Int.reduceMul, rsU, rsC]
   exact Ok_some.2 ⟨rfl, ⟨M, F, wF, P, C, w, P2, C2, w2, R, hL, sg, sk, bg.up, bk.up, by omega, m1, m2, by omega⟩, Keep.refl _ _⟩
theorem rxdrop (hk : k < 80) {t : Int} (hr : -9223372036854775808 <= t /\ t <= 9223372036854775807) : Ok (roots_Roots__Drop [.p (some (.n B.rb, 0)), .i .i64 t] J) fun r => r.1 = .i .i64 (S.G.code t) /\ RX r.2 B { S with G := S.G.drop t } X (k + 1) (m + 20) /\ Keep X J r.2 := by
 obtain ⟨M, F, wF, P, C, w, P2, C2, w2, R, hL, sg, sk, bg, bk, hn, m1, m2, m3⟩ := h.it
 obtain ⟨el, hb⟩ := R.b
 simp (maxSteps := 2000000) -implicitDefEqProofs (disch := (first | omega | rfl | assumption | (simp only [rsD]; first | omega | assumption))) only [roots_Roots__Drop, roots_Roots__Drop_c, hb, Nat.reduceAdd, Nat.reduceMul, Nat.reduceLT, Int.reduceToNat, Int.reduceAdd, Int.reduceSub, Int.reduceMul, rsU, rsC]
 refine Ok.step (hdrop_sim R.g sg ⟨by omega, by omega⟩ hr bg hk) fun r ⟨p1, M1, w1, P1, C1, dr, dw, p2, p7, p8, p9, p3, p4, p4', p5, p6⟩ => ?_
 obtain ⟨q, J1⟩ := r
 simp only at p1 p2 p6
 subst p1
 have r1 := p3.r
 have v1 := p3.w
 simp (maxSteps := 2000000) -implicitDefEqProofs (disch := (first | omega | rfl | assumption | (simp only [rsD]; first | omega | assumption))) only [Nat.reduceAdd, Nat.reduceMul, Nat.reduceLT, Int.reduceToNat, Int.reduceAdd, Int.reduceSub, Int.reduceMul, rsU, rsC]
 exact Ok_some.2 ⟨rfl, ⟨M1, F, wF, P1, C1, w1, P2, C2, w2, R.onG p2 p9 p3 p6, hL, p7, sk, p8, bk.up, by omega, by omega, by omega, by omega⟩, p6.mono fun b hb => by simp [hb]⟩
theorem rxdropw (hk : k < 80) {t : Int} (hr : -9223372036854775808 <= t /\ t <= 9223372036854775807) : Ok (roots_Roots__DropWeak [.p (some (.n B.rb, 0)), .i .i64 t] J) fun r => r.1 = .i .i64 (S.K.code t) /\ RX r.2 B { S with K := S.K.drop t } X (k + 1) (m + 20) /\ Keep X J r.2 := by
 obtain ⟨M, F, wF, P, C, w, P2, C2, w2, R, hL, sg, sk, bg, bk, hn, m1, m2, m3⟩ := h.it
 obtain ⟨el, hb⟩ := R.b
 simp (maxSteps := 2000000) -implicitDefEqProofs (disch := (first | omega | rfl | assumption | (simp only [rsD]; first | omega | assumption))) only [roots_Roots__DropWeak, roots_Roots__DropWeak_c, hb, Nat.reduceAdd, Nat.reduceMul, Nat.reduceLT, Int.reduceToNat, Int.reduceAdd, Int.reduceSub, Int.reduceMul, rsU, rsC]
 refine Ok.step (hdrop_sim R.k sk ⟨by omega, by omega⟩ hr bk hk) fun r ⟨p1, M1, w1, P1, C1, dr, dw, p2, p7, p8, p9, p3, p4, p4', p5, p6⟩ => ?_
 obtain ⟨q, J1⟩ := r
 simp only at p1 p2 p6
 subst p1
 have r1 := p3.r
 have v1 := p3.w
 simp (maxSteps := 2000000) -implicitDefEqProofs (disch := (first | omega | rfl | assumption | (simp only [rsD]; first | omega | assumption))) only [Nat.reduceAdd, Nat.reduceMul, Nat.reduceLT, Int.reduceToNat, Int.reduceAdd, Int.reduceSub, Int.reduceMul, rsU, rsC]
 exact Ok_some.2 ⟨rfl, ⟨M1, F, wF, P, C, w, P1, C1, w1, R.onK p2 p9 p3 p6, hL, sg, p7, bg.up, p8, by omega, by omega, by omega, by omega⟩, p6.mono fun b hb => by simp [hb]⟩
theorem rxweak {t : Int} (hr : -9223372036854775808 <= t /\ t <= 9223372036854775807) : Ok (roots_Roots__Weak [.p (some (.n B.rb, 0)), .i .i64 t] J) fun r => r.1 = .tup [.i .u64 (S.K.getv t), .i .i64 (S.K.code t)] /\ RX r.2 B S X k (m + 10) /\ Keep X J r.2 := by
 obtain ⟨M, F, wF, P, C, w, P2, C2, w2, R, hL, sg, sk, bg, bk, hn, m1, m2, m3⟩ := h.it
 obtain ⟨el, hb⟩ := R.b
 simp (maxSteps := 2000000) -implicitDefEqProofs (disch := (first | omega | rfl | assumption | (simp only [rsD]; first | omega | assumption))) only [roots_Roots__Weak, roots_Roots__Weak_c, hb, Nat.reduceAdd, Nat.reduceMul, Nat.reduceLT, Int.reduceToNat, Int.reduceAdd, Int.reduceSub, Int.reduceMul, rsU, rsC]
 refine Ok.step (hget_sim R.k sk ⟨by omega, by omega⟩ hr) fun r ⟨p1, M1, dr, p2, p3, p4, p5, p6⟩ => ?_
 obtain ⟨q, J1⟩ := r
 simp only at p1 p2 p6
 subst p1
 have r1 := p3.r
 have v1 := p3.w
 simp (maxSteps := 2000000) -implicitDefEqProofs (disch := (first | omega | rfl | assumption | (simp only [rsD]; first | omega | assumption))) only [Nat.reduceAdd, Nat.reduceMul, Nat.reduceLT, Int.reduceToNat, Int.reduceAdd, Int.reduceSub, Int.reduceMul, rsU, rsC]
 exact Ok_some.2 ⟨rfl, ⟨M1, F, wF, P, C, w, P2, C2, w2, R.onK p2 rfl p3 p6, hL, sg, sk, bg, bk, hn, by omega, by omega, by omega⟩, p6.mono fun b hb => by simp [hb]⟩
theorem rxadd (hk : k < 80) {a b c : SA} (st : S.G.st a b c) : Ok (roots_Roots__Add [.p (some (.n B.rb, 0))] J) fun r => ∃ t G', r.1 = .tup [.i .i64 t, .i .i64 0] /\ (∀ J' : AH O, Ok (haymowref18_Add [.agg (S.G.vs a b c), .i .u64 0] J') fun q => (∃ v', q.1 = .tup [v', .i .i64 t] /\ HS.at_ G' v') /\ Ext J' q.2) /\ RX r.2 B { S with G := G' } X (k + 1) (m + 20) /\ Keep X J r.2 := by
 obtain ⟨M, F, wF, P, C, w, P2, C2, w2, R, hL, sg, sk, bg, bk, hn, m1, m2, m3⟩ := h.it
 obtain ⟨el, hb⟩ := R.b
 simp (maxSteps := 2000000) -implicitDefEqProofs (disch := (first | omega | rfl | assumption | (simp only [rsD]; first | omega | assumption))) only [roots_Roots__Add, roots_Roots__Add_c, hb, Nat.reduceAdd, Nat.reduceMul, Nat.reduceLT, Int.reduceToNat, Int.reduceAdd, Int.reduceSub, Int.reduceMul, rsU, rsC]
 refine Ok.step (hadd_sim R.g sg ⟨by omega, by omega⟩ bg hk st (x := 0)) fun r ⟨t, G', p1, doc, M1, w1, P1, C1, dr, dw, p2, p7, p8, p9, p3, p4, p4', p5, p6⟩ => ?_
 obtain ⟨q, J1⟩ := r
 simp only at p1 p2 p6
 subst p1
 have r1 := p3.r
 have v1 := p3.w
 simp (maxSteps := 2000000) -implicitDefEqProofs (disch := (first | omega | rfl | assumption | (simp only [rsD]; first | omega | assumption))) only [Nat.reduceAdd, Nat.reduceMul, Nat.reduceLT, Int.reduceToNat, Int.reduceAdd, Int.reduceSub, Int.reduceMul, rsU, rsC]
 exact Ok_some.2 ⟨t, G', rfl, doc, ⟨M1, F, wF, P1, C1, w1, P2, C2, w2, R.onG p2 p9 p3 p6, hL, p7, sk, p8, bk.up, by omega, by omega, by omega, by omega⟩, p6.mono fun b hb => by simp [hb]⟩
theorem rxaddw (hk : k < 80) {a b c : SA} (st : S.K.st a b c) {x : Int} : Ok (roots_Roots__AddWeak [.p (some (.n B.rb, 0)), .i .u64 x] J) fun r => ∃ t K', r.1 = .tup [.i .i64 t, .i .i64 0] /\ (∀ J' : AH O, Ok (haymowref18_Add [.agg (S.K.vs a b c), .i .u64 x] J') fun q => (∃ v', q.1 = .tup [v', .i .i64 t] /\ HS.at_ K' v') /\ Ext J' q.2) /\ RX r.2 B { S with K := K' } X (k + 1) (m + 20) /\ Keep X J r.2 := by
 obtain ⟨M, F, wF, P, C, w, P2, C2, w2, R, hL, sg, sk, bg, bk, hn, m1, m2, m3⟩ := h.it
 obtain ⟨el, hb⟩ := R.b
 simp (maxSteps := 2000000) -implicitDefEqProofs (disch := (first | omega | rfl | assumption | (simp only [rsD]; first | omega | assumption))) only [roots_Roots__AddWeak, roots_Roots__AddWeak_c, hb, Nat.reduceAdd, Nat.reduceMul, Nat.reduceLT, Int.reduceToNat, Int.reduceAdd, Int.reduceSub, Int.reduceMul, rsU, rsC]
 refine Ok.step (hadd_sim R.k sk ⟨by omega, by omega⟩ bk hk st (x := x)) fun r ⟨t, K', p1, doc, M1, w1, P1, C1, dr, dw, p2, p7, p8, p9, p3, p4, p4', p5, p6⟩ => ?_
 obtain ⟨q, J1⟩ := r
 simp only at p1 p2 p6
 subst p1
 have r1 := p3.r
 have v1 := p3.w
 simp (maxSteps := 2000000) -implicitDefEqProofs (disch := (first | omega | rfl | assumption | (simp only [rsD]; first | omega | assumption))) only [Nat.reduceAdd, Nat.reduceMul, Nat.reduceLT, Int.reduceToNat, Int.reduceAdd, Int.reduceSub, Int.reduceMul, rsU, rsC]
 exact Ok_some.2 ⟨t, K', rfl, doc, ⟨M1, F, wF, P, C, w, P1, C1, w1, R.onK p2 p9 p3 p6, hL, sg, p7, bg.up, p8, by omega, by omega, by omega, by omega⟩, p6.mono fun b hb => by simp [hb]⟩
end
end Go.Abs.Tryz
namespace Go.Abs.Tryz
open Go Go.Abs
variable {O : Type}
section
variable {J : AH O} {B : RtB} {S : RS} {X : List Nat} {k : Nat} {m : Int} (h : RX J B S X k m) (hm : m <= 1000000000)
include h hm
theorem rxpush (hk : k < 80) {n : Nat} (hn : n <= 256) : Ok (frames_Frames__Push [.p (some (.n B.fb, 0)), .i .i64 (n : Int)] J) fun r => r.1 = .i .i64 0 /\ RX r.2 B { S with L := List.replicate n 0 :: S.L } X (k + 1) (m + 300) /\ Keep X J r.2 := by
 have sm := (h.sm (by omega)).f
 obtain ⟨M, F, wF, P, C, w, P2, C2, w2, R, hL, sg, sk, bg, bk, hn', m1, m2, m3⟩ := h.it
 have hwd := fsum_le (F := S.L.reverse) sm.rev.l
 rw [fsum_wds, List.length_reverse, hL] at hwd
 refine (fpush_ok R.f ⟨by omega, by omega⟩ hn (by omega) (by omega)).mono fun r ⟨g1, M', room', w', g2, g3, g4, g5⟩ => ?_
 have r1 := g4.r
 have v1 := g4.w
 exact ⟨g1, ⟨M', _, w', P, C, w, P2, C2, w2, R.onF g2 rfl g4 g5, by rw [hL], sg, sk, bg.up, bk.up, by simp; omega, by omega, by omega, by omega⟩, g5.mono fun b hb => by simp [hb]⟩
theorem rxpop {f : List Int} {r : List (List Int)} (hL0 : S.L = f :: r) : Ok (frames_Frames__Pop [.p (some (.n B.fb, 0))] J) fun q => q.1 = .i .i64 0 /\ RX q.2 B { S with L := r } X (k + 1) (m + 10) /\ Keep X J q.2 := by
 obtain ⟨M, F, wF, P, C, w, P2, C2, w2, R, hL, sg, sk, bg, bk, hn, m1, m2, m3⟩ := h.it
 have hFL : F.L = f :: r := by rw [<- hL]; exact hL0
 refine (fpop_ok R.f ⟨by omega, by omega⟩ hFL (by omega)).mono fun q ⟨g1, M', dr, g2, g3, g4, g5, g6⟩ => ?_
 have r1 := g3.r
 have v1 := g3.w
 exact ⟨g1, ⟨M', _, wF, P, C, w, P2, C2, w2, R.onF g2 rfl g3 g6, rfl, sg, sk, bg.up, bk.up, by rw [hFL] at hn; simp at hn; simp; omega, by omega, by omega, by omega⟩, g6.mono fun b hb => by simp [hb]⟩
theorem rxpop_none (hL0 : S.L = []) : frames_Frames__Pop [.p (some (.n B.fb, 0))] J = some (.i .i64 33, J) := by
 obtain ⟨M, F, wF, P, C, w, P2, C2, w2, R, hL, sg, sk, bg, bk, hn, m1, m2, m3⟩ := h.it
 exact fpop_none R.f ⟨by omega, by omega⟩ (by rw [<- hL]; exact hL0)
theorem rxpush_bad {n : Int} (hn : n < 0 ∨ n > 256) : frames_Frames__Push [.p (some (.n B.fb, 0)), .i .i64 n] J = some (.i .i64 1, J) := by
 obtain ⟨M, F, wF, P, C, w, P2, C2, w2, R, hL, sg, sk, bg, bk, hn', m1, m2, m3⟩ := h.it
 exact fpush_bad R.f ⟨by omega, by omega⟩ hn
end
theorem FrmAt.turn {J J' : AH O} {fb mb : Nat} {M : MemS} {S : FrmS} {w : List Int} {X Y L : List Nat} (h : FrmAt J fb mb M S w X) (hc : Chg L J J') (hl : ∀ b ∈ L, b ∈ X ∨ J.next <= b) (hY : ∀ b ∈ Y, b ∈ X ∨ (J.next <= b /\ b < J'.next)) : FrmAt J' fb mb M S w Y := by
 have hlt := h.lt
 refine { h with mi := h.mi.turn hc (fun b hb => (hl b hb).imp (List.mem_cons_of_mem _) fun g => g) (fun b hb => ?_), b := (hc.blk fb hlt (fun hmm => ?_)).trans h.b, nx := (fun hmm => ?_) }
 ·rcases List.mem_cons.1 hb with rfl | hb
  ·exact .inl List.mem_cons_self
  ·exact (hY b hb).imp (List.mem_cons_of_mem _) fun g => g
 ·rcases hl fb hmm with g | g
  ·exact h.nx g
  ·omega
 ·rcases hY fb hmm with g | g
  ·exact h.nx g
  ·omega
theorem met_call {J : AH O} {mk ob : Nat} {K : List Nat} {a : SA} {F : List Int} {W x : Int} (g1 : J.blk mk = some (.cells true 70 [.sl a F.length])) (g2 : OwnS J T_uint64 1 a F.length (F.map (AV.i .u64))) (g3 : ∀ q ∈ SA.bk a, q ≠ mk /\ q ∉ K) {el : TypeId} {v0 v1 : AV} (hobb : J.blk ob = some (.cells true el [v0, v1, .i .u64 W])) (hob : ob ∈ K) (nk : mk ∉ K) (lmk : mk < J.next) (lob : ob < J.next) (hF : F.length <= 1000000) :
  Ok (law19_turn_1 [.i .u64 x, .p (some (.n mk, 0)), .p (some (.n ob, 0))] J) fun r => r.1 = .i .u64 (IntKind.u64.wrap (x + W)) /\ ∃ a2, r.2.blk mk = some (.cells true 70 [.sl a2 (F ++ [x]).length]) /\ OwnS r.2 T_uint64 1 a2 (F ++ [x]).length ((F ++ [x]).map (AV.i .u64)) /\ (∀ q ∈ SA.bk a2, J.next <= q) /\ J.next <= r.2.next /\ (∀ q, q < J.next -> q ≠ mk -> q ∉ SA.bk a -> r.2.blk q = J.blk q) := by
 have nob : ob ≠ mk := fun e => nk (e ▸ hob)
 have noa : ob ∉ SA.bk a := fun hmm => (g3 ob hmm).2 hob
 simp (maxSteps := 2000000) -implicitDefEqProofs (disch := (first | omega | rfl | assumption | (simp only [rsD]; first | omega | assumption))) only [law19_turn_1, law19_turn_1_c, g1, Nat.reduceAdd, Nat.reduceMul, Nat.reduceLT, Int.reduceToNat, Int.reduceAdd, Int.reduceSub, Int.reduceMul, rsU, rsC]
 generalize hJ : (J.bump 2).put J.next _ = J1
 have n1 : J1.next = J.next + 2 := by rw [<- hJ]; rfl
 have o1 : ∀ q, q ≠ J.next -> J1.blk q = J.blk q := fun q hq => by rw [<- hJ]; exact s_bn hq
 clear hJ
 have w1 := g2.of (J' := J1) (by omega) fun q hq => o1 q (by have := g2.lt q hq; omega)
 refine Ok.step (app_ok (nid := J.next + 1) w1 (fun hm => by have := g2.lt _ hm; omega) (by omega) (show ([.i .u64 x] : List AV).length = 1 * 1 from rfl)) fun q ⟨a2, m1, m2, m3, m4, m5⟩ => ?_
 obtain ⟨q, J2⟩ := q
 simp only at m1 m2 m3 m4
 subst m1
 have nmk : mk ∉ SA.bk a := fun hm => (g3 mk hm).1 rfl
 have b2 : J2.blk mk = _ := (m4 mk (by omega) nmk).trans ((o1 mk (by omega)).trans g1)
 have c2 : J2.blk ob = _ := (m4 ob (by omega) noa).trans ((o1 ob (by omega)).trans hobb)
 simp (maxSteps := 2000000) -implicitDefEqProofs (disch := (first | omega | rfl | assumption | (simp only [rsD]; first | omega | assumption))) only [b2, c2, Nat.reduceAdd, Nat.reduceMul, Nat.reduceLT, Int.reduceToNat, Int.reduceAdd, Int.reduceSub, Int.reduceMul, rsU, rsC]
 have hE : F.map (AV.i .u64) ++ [.i .u64 x] = (F ++ [x]).map (AV.i .u64) := by simp
 have hlen : F.length + 1 = (F ++ [x]).length := by simp
 rw [hE, hlen] at m2
 rw [hlen]
 refine Ok_some.2 ⟨rfl, a2, s_bs, m2.of (by simp) fun q hq => s_bn (by have := m5 q hq; omega), fun q hq => by have := m5 q hq; omega, by simp; omega, fun q h0 h1 h2 => ?_⟩
 rw [s_bn h1, m4 q (by omega) h2, o1 q (by omega)]
theorem turnV_f {p q v : AV} {J : AH O} : callV turnV (some (.func 129, [], [p, q])) [v] J = law19_turn_1 [v, p, q] J := rfl
theorem fturnV_f {p q v : AV} {J : AH O} : callV fturnV (some (.func 129, [], [p, q])) [v] J = law19_turn_1 [v, p, q] J := rfl
structure MetJ (J0 : AH O) (M0 : MemS) (id : Int) (mk : Nat) (K : List Nat) (T V : List Int) (W : Int) (Z : List Int) (n : Int) (J : AH O) (M : MemS) (X : List Nat) : Prop where
 it : ∃ a, X = mk :: (SA.bk a ++ K) /\ J.blk mk = some (.cells true 70 [.sl a (T ++ nz (V.take Z.length)).length]) /\ OwnS J T_uint64 1 a (T ++ nz (V.take Z.length)).length ((T ++ nz (V.take Z.length)).map (AV.i .u64)) /\ ∀ q ∈ SA.bk a, q ≠ mk /\ q ∉ K
 nk : mk ∉ K
 kp : Keep K J0 J
 z : Z = (V.take Z.length).map (wmore W)
 m : M.met.r + M.met.w = M0.met.r + M0.met.w + n
 r : 0 <= M.met.r /\ 0 <= M.met.w
 oth : ∀ y, y ≠ id -> wordsOf M.sp y = wordsOf M0.sp y
section
variable {J0 : AH O} {M0 : MemS} {id : Int} {mk : Nat} {K : List Nat} {T V : List Int} {W : Int} {Z : List Int} {n : Int} {J : AH O} {M : MemS} {X : List Nat} (h : MetJ J0 M0 id mk K T V W Z n J M X)
include h
theorem MetJ.frame {J' : AH O} {M' : MemS} {w w' : List Int} {dr dw : Int} (hw : Wrt M M' id w' dr dw) (h0 : 0 <= id) (kp : Keep X J J') (d1 : 0 <= dr) (d2 : 0 <= dw) : MetJ J0 M0 id mk K T V W Z (n + (dr + dw)) J' M' X := by
 obtain ⟨a, rfl, g1, g2, g3⟩ := h.it
 have r1 := hw.r
 have r2 := hw.w
 have := h.m
 have := h.r
 exact ⟨⟨a, rfl, (kp.blk mk (by simp)).trans g1, g2.of kp.next fun q hq => kp.blk q (by simp [hq]), g3⟩, h.nk, h.kp.trans (kp.mono (by simp +contextual)), h.z, by omega, by omega, fun y hy => (hw.other h0 hy).trans (h.oth y hy)⟩
theorem MetJ.skip (hz : V[Z.length]? = some 0) : MetJ J0 M0 id mk K T V W (Z ++ [0]) n J M X := by
 have e1 : nz (V.take (Z ++ [0]).length) = nz (V.take Z.length) := by
  rw [List.length_append, List.length_singleton, take_snoc hz, nz_app]; simp [nz]
 refine ⟨by rw [e1]; exact h.it, h.nk, h.kp, ?_, h.m, h.r, h.oth⟩
 rw [List.length_append, List.length_singleton, take_snoc hz, List.map_append, <- h.z]; simp [wmore]
theorem MetJ.call {ob : Nat} (hob : ob ∈ K) {el : TypeId} {v0 v1 : AV} (hW : J0.blk ob = some (.cells true el [v0, v1, .i .u64 W])) (hT : T.length + V.length <= 1000000) (lX : ∀ q ∈ X, q < J.next) {x : Int} (hz : V[Z.length]? = some x) (hx : x ≠ 0) :
  Ok (law19_turn_1 [.i .u64 x, .p (some (.n mk, 0)), .p (some (.n ob, 0))] J) fun r => r.1 = .i .u64 (IntKind.u64.wrap (x + W)) /\ ∃ X', MetJ J0 M0 id mk K T V W (Z ++ [IntKind.u64.wrap (x + W)]) n r.2 M X' /\ (∃ L, Chg L J r.2 /\ (∀ b ∈ L, b ∈ X) /\ ∀ b ∈ X', b ∈ X ∨ (J.next <= b /\ b < r.2.next)) /\ ∀ q, q < J.next -> q ∉ X -> q ∉ X' /\ r.2.blk q = J.blk q := by
 obtain ⟨a, rfl, g1, g2, g3⟩ := h.it
 have hzl := (List.getElem?_eq_some_iff.1 hz).1
 have hFl : (T ++ nz (V.take Z.length)).length <= 1000000 := by
  have h1 := nz_le (V.take Z.length)
  have h2 : (V.take Z.length).length <= V.length := by rw [List.length_take]; omega
  simp only [List.length_append]; omega
 have e1 : T ++ nz (V.take (Z.length + 1)) = (T ++ nz (V.take Z.length)) ++ [x] := by
  rw [take_snoc hz, nz_app, List.append_assoc]; simp [nz, hx]
 have el1 : (Z ++ [IntKind.u64.wrap (x + W)]).length = Z.length + 1 := by simp
 have e2 : Z ++ [IntKind.u64.wrap (x + W)] = (V.take (Z.length + 1)).map (wmore W) := by
  rw [take_snoc hz, List.map_append, <- h.z]
  simp [wmore, hx]
 have hobb := (h.kp.blk ob hob).trans hW
 refine (met_call g1 g2 g3 hobb hob h.nk (lX mk (by simp)) (lX ob (by simp [hob])) hFl (x := x)).mono fun r ⟨k1, a2, k2, k3, k4, k5, k6⟩ => ⟨k1, mk :: (SA.bk a2 ++ K), ⟨⟨a2, rfl, ?_, ?_, fun q hq => ⟨?_, fun hm => ?_⟩⟩, h.nk, ⟨Nat.le_trans h.kp.next k5, fun q hq => ?_⟩, ?_, h.m, h.r, h.oth⟩, ⟨mk :: SA.bk a, ⟨k5, fun q h0 hm => ?_⟩, ?_, fun q hq => ?_⟩, fun q h0 hq => ⟨fun hm => ?_, ?_⟩⟩
 ·rw [el1, e1]; exact k2
 ·rw [el1, e1]; exact k3
 ·have := k4 q hq; have := lX mk (by simp); omega
 ·have := k4 q hq; have := lX q (by simp [hm]); omega
 ·rw [k6 q (lX q (by simp [hq])) (fun e => h.nk (e ▸ hq)) (fun hm => (g3 q hm).2 hq)]
  exact h.kp.blk q hq
 ·rw [List.length_append, List.length_singleton]
  exact e2
 ·simp only [List.mem_cons, not_or] at hm
  exact k6 q h0 hm.1 hm.2
 ·intro b hb
  simp only [List.mem_cons] at hb
  rcases hb with rfl | hb
  ·simp
  ·simp [hb]
 ·simp only [List.mem_cons, List.mem_append] at hq
  rcases hq with rfl | hq | hq
  ·exact .inl (by simp)
  ·exact .inr ⟨k4 q hq, k3.lt q hq⟩
  ·exact .inl (by simp [hq])
 ·simp only [List.mem_cons, List.mem_append, not_or] at hm hq
  rcases hm with hm | hm | hm
  ·exact hq.1 hm
  ·have := k4 q hm; omega
  ·exact hq.2.2 hm
 ·simp only [List.mem_cons, List.mem_append, not_or] at hq
  exact k6 q h0 hq.1 hq.2.1
end
theorem met_fturner {fb mb : Nat} {id : Int} {J0 : AH O} {M0 : MemS} {mk ob : Nat} {K : List Nat} {T V : List Int} {W : Int} (h0 : 0 <= id) (hV : T.length + V.length <= 100000) (hob : ob ∈ K) {el : TypeId} {v0 v1 : AV} (hW : J0.blk ob = some (.cells true el [v0, v1, .i .u64 W])) (hm : M0.met.r + M0.met.w <= 2000000000) :
  FTurner fb mb id V (.func 129, [], [.p (some (.n mk, 0)), .p (some (.n ob, 0))]) (MetJ (O := O) J0 M0 id mk K T V W) where
 calm := fun h h0 h1 h2 => by have := h.m; have := h.r; omega
 fr := fun {Z n J M X J' M' S w S' w' dr dw} h h1 h2 _ _ hw kp d1 d2 => h.frame (w := w) hw h0 kp d1 d2
 skip := fun hz h => h.skip hz
 call := fun {fx Z n J M S w X x} hz hx _ hh h hfx => by
  rw [fturnV_f]
  have lX : ∀ q ∈ fx ++ X, q < J.next := fun q hq => hh.mi.lt q (by simp only [List.mem_cons, hq, or_true])
  refine (h.call hob hW (by omega) (fun q hq => lX q (by simp [hq])) hz hx).mono fun r ⟨k1, X', k2, ⟨L, c1, c2, c3⟩, k4⟩ => ⟨_, k1, M, X', hh.turn c1 (fun b hb => .inl (by simp [c2 b hb])) (fun b hb => ?_), fun q hq => k4 q (lX q (by simp [hq])) (hfx q hq), k2⟩
  rcases List.mem_append.1 hb with hb | hb
  ·exact .inl (by simp [hb])
  ·exact (c3 b hb).imp (fun e => by simp [e]) fun e => e
theorem met_turner19 {hb pb mb : Nat} {P : PoolS} {C : List Nat} {V : List (Nat × Int)} {J0 : AH O} {M0 : MemS} {mk ob : Nat} {K : List Nat} {T : List Int} {W : Int} (h0 : 0 <= P.id) (hV : T.length + V.length <= 100000) (hob : ob ∈ K) {el : TypeId} {v0 v1 : AV} (hW : J0.blk ob = some (.cells true el [v0, v1, .i .u64 W])) (hm : M0.met.r + M0.met.w <= 2000000000) :
  Turner hb pb mb P C V (.func 129, [], [.p (some (.n mk, 0)), .p (some (.n ob, 0))]) (MetJ (O := O) J0 M0 P.id mk K T (V.map (·.2)) W) where
 calm := fun h h0 h1 h2 => by have := h.m; have := h.r; omega
 fr := fun {Z n J M X J' M' P1 w P' w' dr dw} h h1 h2 hid _ hw kp d1 d2 => h.frame (w := w) (by rw [<- hid]; exact hw) h0 kp d1 d2
 skip := fun {Z n J M X g} hz h => h.skip (by rw [List.getElem?_map, hz]; rfl)
 call := fun {fx Z n J M P w X g x} hz hx _ hh h hfx => by
  rw [turnV_f]
  have lX : ∀ q ∈ fx ++ X, q < J.next := fun q hq => hh.p.mi.lt q (by simp only [List.mem_cons, hq, or_true])
  refine (h.call hob hW (by rw [List.length_map]; omega) (fun q hq => lX q (by simp [hq])) (x := x) (by rw [List.getElem?_map, hz]; rfl) hx).mono fun r ⟨k1, X', k2, ⟨L, c1, c2, c3⟩, k4⟩ => ⟨_, k1, M, X', hh.turn c1 (fun b hb => .inl (by simp [c2 b hb])) (fun b hb => ?_), fun q hq => k4 q (lX q (by simp [hq])) (hfx q hq), k2⟩
  rcases List.mem_append.1 hb with hb | hb
  ·exact .inl (by simp [hb])
  ·exact (c3 b hb).imp (fun e => by simp [e]) fun e => e
end Go.Abs.Tryz
namespace Go.Abs.Tryz
open Go Go.Abs
variable {O : Type}
theorem flat_le : ∀ (l : List (List Int)), (∀ f ∈ l, f.length <= 256) -> l.flatten.length <= 256 * l.length
 | [], _ => by simp
 | f :: r, h => by
  have h1 := h f List.mem_cons_self
  have h2 := flat_le r fun x hx => h x (List.mem_cons_of_mem _ hx)
  simp only [List.flatten_cons, List.length_append, List.length_cons]; omega
theorem flatten_inj : ∀ {L L' : List (List Int)}, L.map List.length = L'.map List.length -> L.flatten = L'.flatten -> L = L'
 | [], [], _, _ => rfl
 | [], _ :: _, h, _ => by simp at h
 | _ :: _, [], h, _ => by simp at h
 | f :: r, g :: s, h, e => by
  simp only [List.map_cons, List.cons.injEq] at h
  simp only [List.flatten_cons] at e
  obtain ⟨h1, h2⟩ := List.append_inj e h.1
  rw [h1, flatten_inj h.2 h2]
theorem HanAt.by2 {J J' : AH O} {hb pb mb : Nat} {M M' : MemS} {P : PoolS} {C : List Nat} {w : List Int} {X Y : List Nat} (h : HanAt J hb pb mb M P C w X) (mi : MemIn J' mb M' (pb :: hb :: Y)) (h1 : J'.blk hb = J.blk hb) (h2 : J'.blk pb = J.blk pb) (hw : wordsOf M'.sp P.id = wordsOf M.sp P.id) (n1 : pb ∉ hb :: Y) (n2 : hb ∉ Y) : HanAt J' hb pb mb M' P C w Y :=
 { h with p := { h.p with mi := mi, b := h2.trans h.p.b, nx := n1, now := hw.trans h.p.now }, b := by obtain ⟨el, hb⟩ := h.b; exact ⟨el, h1.trans hb⟩, nx := n2 }
theorem FrmAt.by2 {J J' : AH O} {fb mb : Nat} {M M' : MemS} {S : FrmS} {w : List Int} {X Y : List Nat} (h : FrmAt J fb mb M S w X) (mi : MemIn J' mb M' (fb :: Y)) (hb : J'.blk fb = J.blk fb) (hw : wordsOf M'.sp S.id = wordsOf M.sp S.id) (n : fb ∉ Y) : FrmAt J' fb mb M' S w Y :=
 { h with mi := mi, b := hb.trans h.b, nx := n, now := hw.trans h.now }
theorem hmore_w (W y : Int) : (hmore W (0, y)).2 = wmore W y := by
 unfold hmore wmore
 by_cases c : y = 0
 ·rw [if_pos c, if_pos c]; exact c
 ·rw [if_neg c, if_neg c]
section
variable {J : AH O} {B : RtB} {S : RS} {Ks : List Nat} {k : Nat} {m : Int} {mk ob : Nat}
theorem rturn_f {M : MemS} {F : FrmS} {wF : List Int} {P : PoolS} {C : List Nat} {w : List Int} {P2 : PoolS} {C2 : List Nat} {w2 : List Int} (R : RootAt J B M F wF P C w P2 C2 w2 (mk :: Ks)) (hk : F.L.length <= 80) (hm : 0 <= M.met.r /\ 0 <= M.met.w /\ M.met.r + M.met.w <= 1000000000) (nk : mk ∉ Ks) (bmk : J.blk mk = some (.cells true 70 [.sl .nil 0])) (hob : ob ∈ Ks) {el : TypeId} {v0 v1 : AV} {W : Int} (hW : J.blk ob = some (.cells true el [v0, v1, .i .u64 W])) :
  Ok (frames_Frames__Turn [.p (some (.n B.fb, 0)), .fn (some (.func 129, [], [.p (some (.n mk, 0)), .p (some (.n ob, 0))]))] J) fun r => r.1 = .tup [] /\ ∃ a M' F' wF', RootAt r.2 B M' F' wF' P C w P2 C2 w2 (mk :: (SA.bk a ++ Ks)) /\ F'.L = F.L.map (List.map (wmore W)) /\ r.2.blk mk = some (.cells true 70 [.sl a (nz F.L.flatten).length]) /\ OwnS r.2 T_uint64 1 a (nz F.L.flatten).length ((nz F.L.flatten).map (AV.i .u64)) /\ (∀ q ∈ SA.bk a, q ≠ mk /\ q ∉ Ks) /\ Keep Ks J r.2 /\ 0 <= M'.met.r /\ 0 <= M'.met.w /\ M'.met.r + M'.met.w <= M.met.r + M.met.w + 50000 := by
 have hfl := flat_le F.L R.f.len
 have h0 := (wordsOf_some R.f.now).1
 have nfX := R.f.nx
 have ngX := R.g.nx
 have ngp := R.g.p.nx
 have nkX := R.k.nx
 have nkp := R.k.p.nx
 have nr := R.nx
 have hmkK : mk ∉ (B.rb :: B.gb :: B.gp :: B.kb :: B.kp :: Ks) := fun hmm => by
  simp only [List.mem_cons, not_or] at hmm nr ngX ngp nkX nkp
  rcases hmm with e | e | e | e | e | e
  ·exact nr.1 e.symm
  ·exact ngX.2.2.2.2.1 e.symm
  ·exact ngp.2.2.2.2.2.1 e.symm
  ·exact nkX.2.2.2.2.1 e.symm
  ·exact nkp.2.2.2.2.2.1 e.symm
  ·exact nk e
 have f0 : FrmAt J B.fb B.mb M F wF (mk :: (SA.bk .nil ++ (B.rb :: B.gb :: B.gp :: B.kb :: B.kp :: Ks))) := R.f.mono fun q hq => by
  simp only [SA.bk, List.nil_append, List.mem_cons] at hq ⊢
  rcases hq with e | e | e | e | e | e | e <;> simp [e]
 have T := met_fturner (O := O) (fb := B.fb) (mb := B.mb) (id := F.id) (J0 := J) (M0 := M) (mk := mk) (ob := ob) (K := B.rb :: B.gb :: B.gp :: B.kb :: B.kp :: Ks) (T := []) (V := F.L.flatten) (W := W) h0 (by simp only [List.length_nil]; omega) (by simp [hob]) hW (by omega)
 refine (fturn_ok T f0 rfl ⟨⟨.nil, rfl, by simpa [nz] using bmk, by simpa [nz] using OwnS.nil _ _ _, by simp [SA.bk]⟩, hmkK, Keep.refl _ _, rfl, by omega, ⟨hm.1, hm.2.1⟩, fun _ _ => rfl⟩ rfl (by omega)).mono fun r ⟨g1, n, M', F', wF', X', g2, g3, g4, g5, g6, g7, g8⟩ => ?_
 obtain ⟨a, rfl, d1, d2, d3⟩ := g6.it
 have hl : F'.L.flatten.length = F.L.flatten.length := by rw [List.length_flatten, List.length_flatten, g5]
 have hz := g6.z
 rw [hl, List.take_length] at hz
 rw [hl, List.take_length, List.nil_append] at d1 d2
 have hL : F'.L = F.L.map (List.map (wmore W)) := by
  refine flatten_inj ?_ ?_
  ·rw [g5]; simp
  ·rw [hz, List.map_flatten]
 have kp := g6.kp
 have oth := g6.oth
 have hmm := g6.m
 have hrr := g6.r
 obtain ⟨n1, n2, n3⟩ := R.ne
 have dK : ∀ q, q ∈ (B.rb :: B.gb :: B.gp :: B.kb :: B.kp :: Ks) -> q ∉ SA.bk a := fun q hq hm => (d3 q hm).2 hq
 refine ⟨g1, a, M', F', wF', ⟨g2.mono fun q hq => ?_, R.g.by2 (g2.mi.mono fun q hq => ?_) (kp.blk _ (by simp)) (kp.blk _ (by simp)) (oth _ (fun e => n1 e.symm)) (fun hmm => ?_) (fun hmm => ?_), R.k.by2 (g2.mi.mono fun q hq => ?_) (kp.blk _ (by simp)) (kp.blk _ (by simp)) (oth _ (fun e => n2 e.symm)) (fun hmm => ?_) (fun hmm => ?_), by obtain ⟨el, hb⟩ := R.b; exact ⟨el, (kp.blk _ (by simp)).trans hb⟩, by rw [g3]; exact R.ne, fun hmm => ?_⟩, hL, d1, d2, fun q hq => ⟨(d3 q hq).1, fun hm => (d3 q hq).2 (by simp [hm])⟩, kp.mono fun q hq => by simp [hq], hrr.1, hrr.2, by omega⟩
 ·simp only [List.mem_cons, List.mem_append] at hq ⊢
  rcases hq with e | e | e | e | e | e | e | e <;> simp [e]
 ·simp only [List.mem_cons, List.mem_append] at hq ⊢
  rcases hq with e | e | e | e | e | e | e | e | e <;> simp [e]
 ·simp only [List.mem_cons, List.mem_append] at hmm
  rcases hmm with e | e | e | e | e | e | e | e
  ·exact ngp (by simp [e])
  ·exact ngp (by simp [e])
  ·exact ngp (by simp [e])
  ·exact ngp (by simp [e])
  ·exact ngp (by simp [e])
  ·exact ngp (by simp [e])
  ·exact dK B.gp (by simp) e
  ·exact ngp (by simp [e])
 ·simp only [List.mem_cons, List.mem_append] at hmm
  rcases hmm with e | e | e | e | e | e | e
  ·exact ngX (by simp [e])
  ·exact ngX (by simp [e])
  ·exact ngX (by simp [e])
  ·exact ngX (by simp [e])
  ·exact ngX (by simp [e])
  ·exact dK B.gb (by simp) e
  ·exact ngX (by simp [e])
 ·simp only [List.mem_cons, List.mem_append] at hq ⊢
  rcases hq with e | e | e | e | e | e | e | e | e <;> simp [e]
 ·simp only [List.mem_cons, List.mem_append] at hmm
  rcases hmm with e | e | e | e | e | e | e | e
  ·exact nkp (by simp [e])
  ·exact nkp (by simp [e])
  ·exact nkp (by simp [e])
  ·exact nkp (by simp [e])
  ·exact nkp (by simp [e])
  ·exact nkp (by simp [e])
  ·exact dK B.kp (by simp) e
  ·exact nkp (by simp [e])
 ·simp only [List.mem_cons, List.mem_append] at hmm
  rcases hmm with e | e | e | e | e | e | e
  ·exact nkX (by simp [e])
  ·exact nkX (by simp [e])
  ·exact nkX (by simp [e])
  ·exact nkX (by simp [e])
  ·exact nkX (by simp [e])
  ·exact dK B.kb (by simp) e
  ·exact nkX (by simp [e])
 ·simp only [List.mem_cons, List.mem_append] at hmm nr
  rcases hmm with e | e | e
  ·exact nr (.inl e)
  ·exact dK B.rb (by simp) e
  ·exact nr (.inr e)
theorem rturn_h {hb pb mb : Nat} {M : MemS} {P : PoolS} {C : List Nat} {w : List Int} {K : List Nat} {a : SA} {T : List Int} {H : HS} (h : HanAt J hb pb mb M P C w (mk :: (SA.bk a ++ K))) (sim : HSim H P C) (hC : C.length <= 80) (hT : T.length <= 50000) (hm : 0 <= M.met.r /\ 0 <= M.met.w /\ M.met.r + M.met.w <= 2000000000) (nk : mk ∉ K) (bmk : J.blk mk = some (.cells true 70 [.sl a T.length])) (own : OwnS J T_uint64 1 a T.length (T.map (AV.i .u64))) (d : ∀ q ∈ SA.bk a, q ≠ mk /\ q ∉ K) (hob : ob ∈ K) {el : TypeId} {v0 v1 : AV} {W : Int} (hW : J.blk ob = some (.cells true el [v0, v1, .i .u64 W])) :
  Ok (handles_Handles__Turn [.p (some (.n hb, 0)), .fn (some (.func 129, [], [.p (some (.n mk, 0)), .p (some (.n ob, 0))]))] J) fun r => r.1 = .tup [] /\ ∃ a' M' P' w', HanAt r.2 hb pb mb M' P' C w' (mk :: (SA.bk a' ++ K)) /\ HSim (H.more W) P' C /\ Like P P' /\ r.2.blk mk = some (.cells true 70 [.sl a' (T ++ H.filled).length]) /\ OwnS r.2 T_uint64 1 a' (T ++ H.filled).length ((T ++ H.filled).map (AV.i .u64)) /\ (∀ q ∈ SA.bk a', q ≠ mk /\ q ∉ K) /\ Keep K J r.2 /\ (∀ y, y ≠ P.id -> wordsOf M'.sp y = wordsOf M.sp y) /\ 0 <= M'.met.r /\ 0 <= M'.met.w /\ M'.met.r + M'.met.w <= M.met.r + M.met.w + 1000 := by
 obtain ⟨V, hVl, hV, hVS⟩ := sim.vals
 have h0 := (wordsOf_some h.p.now).1
 have T' := met_turner19 (O := O) (hb := hb) (pb := pb) (mb := mb) (P := P) (C := C) (V := V) (J0 := J) (M0 := M) (mk := mk) (ob := ob) (K := K) (T := T) (W := W) h0 (by omega) hob hW (by omega)
 refine (hturn_ok T' h hV ⟨⟨a, rfl, by simpa [nz] using bmk, by simpa [nz] using own, d⟩, nk, Keep.refl _ _, rfl, by omega, ⟨hm.1, hm.2.1⟩, fun _ _ => rfl⟩).mono fun r ⟨g1, Z, n, M', P', w', X', g2, g3, g4, g5, g6, g7, g8⟩ => ?_
 obtain ⟨a', rfl, d1, d2, d3⟩ := g6.it
 have hz := g6.z
 have hl : (V.map (·.2)).length = Z.length := by simp; omega
 rw [<- hl, List.take_length] at hz
 rw [<- hl, List.take_length, hVS] at d1 d2
 have hmm := g6.m
 have hF : nz (H.L.map (·.2)) = H.filled := rfl
 rw [hF] at d1 d2
 refine ⟨g1, a', M', P', w', g3, sim.more g4 hV fun j i hj => ?_, g4, d1, d2, d3, g6.kp, g6.oth, g6.r.1, g6.r.2, by omega⟩
 rw [g5 j i hj, hz]
 congr 3
 rw [List.map_map]
 congr 2
 funext p
 exact (hmore_w W p.2).symm
theorem RootAt.asG {J' : AH O} {M M' : MemS} {F : FrmS} {wF : List Int} {P : PoolS} {C : List Nat} {w : List Int} {P2 : PoolS} {C2 : List Nat} {w2 : List Int} {a a' : SA} {P' : PoolS} {w' : List Int} (R : RootAt J B M F wF P C w P2 C2 w2 (mk :: (SA.bk a ++ Ks)))
  (g : HanAt J' B.gb B.gp B.mb M' P' C w' (mk :: (SA.bk a' ++ (B.rb :: B.fb :: B.kb :: B.kp :: Ks)))) (hid : P'.id = P.id) (oth : ∀ y, y ≠ P.id -> wordsOf M'.sp y = wordsOf M.sp y) (kp : Keep (B.rb :: B.fb :: B.kb :: B.kp :: Ks) J J') (d : ∀ q ∈ SA.bk a', q ∉ (B.rb :: B.fb :: B.kb :: B.kp :: Ks)) :
  RootAt J' B M' F wF P' C w' P2 C2 w2 (mk :: (SA.bk a' ++ Ks)) := by
 obtain ⟨n1, n2, n3⟩ := R.ne
 have nfX := R.f.nx
 have noX := R.k.nx
 have nop := R.k.p.nx
 have nr := R.nx
 have dK : ∀ q, q ∈ (B.rb :: B.fb :: B.kb :: B.kp :: Ks) -> q ∉ SA.bk a' := fun q hq hm => d q hm hq
 have hF : FrmAt J' B.fb B.mb M' F wF (B.rb :: B.gb :: B.gp :: B.kb :: B.kp :: mk :: (SA.bk a' ++ Ks)) := by
  refine R.f.by2 (g.p.mi.mono fun q hq => ?_) (kp.blk _ (by simp)) (oth _ n1) (fun hmm => ?_)
  ·simp only [List.mem_cons, List.mem_append] at hq ⊢
   rcases hq with e | e | e | e | e | e | e | e | e <;> simp [e]
  ·simp only [List.mem_cons, List.mem_append] at hmm
   rcases hmm with e | e | e | e | e | e | e | e
   ·exact nfX (by simp [e])
   ·exact nfX (by simp [e])
   ·exact nfX (by simp [e])
   ·exact nfX (by simp [e])
   ·exact nfX (by simp [e])
   ·exact nfX (by simp [e])
   ·exact dK B.fb (by simp) e
   ·exact nfX (by simp [e])
 have hO : HanAt J' B.kb B.kp B.mb M' P2 C2 w2 (B.rb :: B.fb :: B.gb :: B.gp :: mk :: (SA.bk a' ++ Ks)) := by
  refine R.k.by2 (g.p.mi.mono fun q hq => ?_) (kp.blk _ (by simp)) (kp.blk _ (by simp)) (oth _ (fun e => n3 e.symm)) (fun hmm => ?_) (fun hmm => ?_)
  ·simp only [List.mem_cons, List.mem_append] at hq ⊢
   rcases hq with e | e | e | e | e | e | e | e | e <;> simp [e]
  ·simp only [List.mem_cons, List.mem_append] at hmm
   rcases hmm with e | e | e | e | e | e | e | e
   ·exact nop (by simp [e])
   ·exact nop (by simp [e])
   ·exact nop (by simp [e])
   ·exact nop (by simp [e])
   ·exact nop (by simp [e])
   ·exact nop (by simp [e])
   ·exact dK B.kp (by simp) e
   ·exact nop (by simp [e])
  ·simp only [List.mem_cons, List.mem_append] at hmm
   rcases hmm with e | e | e | e | e | e | e
   ·exact noX (by simp [e])
   ·exact noX (by simp [e])
   ·exact noX (by simp [e])
   ·exact noX (by simp [e])
   ·exact noX (by simp [e])
   ·exact dK B.kb (by simp) e
   ·exact noX (by simp [e])
 have hG : HanAt J' B.gb B.gp B.mb M' P' C w' (B.rb :: B.fb :: B.kb :: B.kp :: mk :: (SA.bk a' ++ Ks)) := g.mono fun q hq => by
  simp only [List.mem_cons, List.mem_append] at hq ⊢
  rcases hq with e | e | e | e | e | e | e <;> simp [e]
 refine ⟨hF, hG, hO, by obtain ⟨el, hb⟩ := R.b; exact ⟨el, (kp.blk _ (by simp)).trans hb⟩, by rw [hid]; exact R.ne, fun hmm => ?_⟩
 simp only [List.mem_cons, List.mem_append] at hmm nr
 rcases hmm with e | e | e
 ·exact nr (.inl e)
 ·exact dK B.rb (by simp) e
 ·exact nr (.inr (.inr e))
theorem RootAt.asK {J' : AH O} {M M' : MemS} {F : FrmS} {wF : List Int} {P : PoolS} {C : List Nat} {w : List Int} {P2 : PoolS} {C2 : List Nat} {w2 : List Int} {a a' : SA} {P' : PoolS} {w' : List Int} (R : RootAt J B M F wF P C w P2 C2 w2 (mk :: (SA.bk a ++ Ks)))
  (g : HanAt J' B.kb B.kp B.mb M' P' C2 w' (mk :: (SA.bk a' ++ (B.rb :: B.fb :: B.gb :: B.gp :: Ks)))) (hid : P'.id = P2.id) (oth : ∀ y, y ≠ P2.id -> wordsOf M'.sp y = wordsOf M.sp y) (kp : Keep (B.rb :: B.fb :: B.gb :: B.gp :: Ks) J J') (d : ∀ q ∈ SA.bk a', q ∉ (B.rb :: B.fb :: B.gb :: B.gp :: Ks)) :
  RootAt J' B M' F wF P C w P' C2 w' (mk :: (SA.bk a' ++ Ks)) := by
 obtain ⟨n1, n2, n3⟩ := R.ne
 have nfX := R.f.nx
 have noX := R.g.nx
 have nop := R.g.p.nx
 have nr := R.nx
 have dK : ∀ q, q ∈ (B.rb :: B.fb :: B.gb :: B.gp :: Ks) -> q ∉ SA.bk a' := fun q hq hm => d q hm hq
 have hF : FrmAt J' B.fb B.mb M' F wF (B.rb :: B.gb :: B.gp :: B.kb :: B.kp :: mk :: (SA.bk a' ++ Ks)) := by
  refine R.f.by2 (g.p.mi.mono fun q hq => ?_) (kp.blk _ (by simp)) (oth _ n2) (fun hmm => ?_)
  ·simp only [List.mem_cons, List.mem_append] at hq ⊢
   rcases hq with e | e | e | e | e | e | e | e | e <;> simp [e]
  ·simp only [List.mem_cons, List.mem_append] at hmm
   rcases hmm with e | e | e | e | e | e | e | e
   ·exact nfX (by simp [e])
   ·exact nfX (by simp [e])
   ·exact nfX (by simp [e])
   ·exact nfX (by simp [e])
   ·exact nfX (by simp [e])
   ·exact nfX (by simp [e])
   ·exact dK B.fb (by simp) e
   ·exact nfX (by simp [e])
 have hO : HanAt J' B.gb B.gp B.mb M' P C w (B.rb :: B.fb :: B.kb :: B.kp :: mk :: (SA.bk a' ++ Ks)) := by
  refine R.g.by2 (g.p.mi.mono fun q hq => ?_) (kp.blk _ (by simp)) (kp.blk _ (by simp)) (oth _ n3) (fun hmm => ?_) (fun hmm => ?_)
  ·simp only [List.mem_cons, List.mem_append] at hq ⊢
   rcases hq with e | e | e | e | e | e | e | e | e <;> simp [e]
  ·simp only [List.mem_cons, List.mem_append] at hmm
   rcases hmm with e | e | e | e | e | e | e | e
   ·exact nop (by simp [e])
   ·exact nop (by simp [e])
   ·exact nop (by simp [e])
   ·exact nop (by simp [e])
   ·exact nop (by simp [e])
   ·exact nop (by simp [e])
   ·exact dK B.gp (by simp) e
   ·exact nop (by simp [e])
  ·simp only [List.mem_cons, List.mem_append] at hmm
   rcases hmm with e | e | e | e | e | e | e
   ·exact noX (by simp [e])
   ·exact noX (by simp [e])
   ·exact noX (by simp [e])
   ·exact noX (by simp [e])
   ·exact noX (by simp [e])
   ·exact dK B.gb (by simp) e
   ·exact noX (by simp [e])
 have hG : HanAt J' B.kb B.kp B.mb M' P' C2 w' (B.rb :: B.fb :: B.gb :: B.gp :: mk :: (SA.bk a' ++ Ks)) := g.mono fun q hq => by
  simp only [List.mem_cons, List.mem_append] at hq ⊢
  rcases hq with e | e | e | e | e | e | e <;> simp [e]
 refine ⟨hF, hO, hG, by obtain ⟨el, hb⟩ := R.b; exact ⟨el, (kp.blk _ (by simp)).trans hb⟩, by rw [hid]; exact R.ne, fun hmm => ?_⟩
 simp only [List.mem_cons, List.mem_append] at hmm nr
 rcases hmm with e | e | e
 ·exact nr (.inl e)
 ·exact dK B.rb (by simp) e
 ·exact nr (.inr (.inr e))
end
end Go.Abs.Tryz
namespace Go.Abs.Tryz
open Go Go.Abs
variable {O : Type}
section
variable {J : AH O} {B : RtB} {S : RS} {Ks : List Nat} {k : Nat} {m : Int} {mk ob : Nat} (h : RX J B S (mk :: Ks) k m) (hm : m <= 100000000) (hk : k < 80) (nk : mk ∉ Ks) (bmk : J.blk mk = some (.cells true 70 [.sl .nil 0])) (hob : ob ∈ Ks) {el : TypeId} {v0 v1 : AV} {W : Int} (hW : J.blk ob = some (.cells true el [v0, v1, .i .u64 W]))
include h hm hk nk bmk hob hW
theorem rxturn : Ok (roots_Roots__Turn [.p (some (.n B.rb, 0)), .fn (some (.func 129, [], [.p (some (.n mk, 0)), .p (some (.n ob, 0))]))] J) fun r => r.1 = .tup [] /\ ∃ a, r.2.blk mk = some (.cells true 70 [.sl a S.filled.length]) /\ OwnS r.2 T_uint64 1 a S.filled.length (S.filled.map (AV.i .u64)) /\ (∀ q ∈ SA.bk a, q ≠ mk /\ q ∉ Ks) /\ RX r.2 B (S.more W) (mk :: (SA.bk a ++ Ks)) (k + 1) (m + 100000) /\ Keep Ks J r.2 := by
 have sm := h.sm (by omega)
 obtain ⟨M, F, wF, P, C, w, P2, C2, w2, R, hL, sg, sk, bg, bk, hn, m1, m2, m3⟩ := h.it
 obtain ⟨elb, hb⟩ := R.b
 have hce := R.g.ce
 have hbe := bg.e
 have nr := R.nx
 have ngX := R.g.nx
 have ngp := R.g.p.nx
 have nkX := R.k.nx
 have nkp := R.k.p.nx
 have nfX := R.f.nx
 simp (maxSteps := 2000000) -implicitDefEqProofs (disch := (first | omega | rfl | assumption | (simp only [rsD]; first | omega | assumption))) only [roots_Roots__Turn, roots_Roots__Turn_c, hb, Nat.reduceAdd, Nat.reduceMul, Nat.reduceLT, Int.reduceToNat, Int.reduceAdd, Int.reduceSub, Int.reduceMul, rsU, rsC]
 refine Ok.step (rturn_f R (by omega) ⟨m1, m2, by omega⟩ nk bmk hob hW) fun r ⟨g1, a, M1, F1, wF1, R1, g3, d1, d2, d3, kp1, u1, u2, u3⟩ => ?_
 obtain ⟨q, J1⟩ := r
 simp only at g1 R1 d1 d2 kp1
 subst g1
 obtain ⟨elb1, hb1⟩ := R1.b
 have hfl := flat_le F.L R.f.len
 have hnz := nz_le F.L.flatten
 have nr1 := R1.nx
 have ngX1 := R1.g.nx
 have ngp1 := R1.g.p.nx
 have nkX1 := R1.k.nx
 have nkp1 := R1.k.p.nx
 have nfX1 := R1.f.nx
 have hW1 : J1.blk ob = _ := (kp1.blk ob hob).trans hW
 have hG : HanAt J1 B.gb B.gp B.mb M1 P C w (mk :: (SA.bk a ++ (B.rb :: B.fb :: B.kb :: B.kp :: Ks))) := R1.g.mono fun q hq => by
  simp only [List.mem_cons, List.mem_append] at hq ⊢
  rcases hq with e | e | e | e | e | e | e <;> simp [e]
 have hmk1 : mk ∉ (B.rb :: B.fb :: B.kb :: B.kp :: Ks) := fun hmm => by
  simp only [List.mem_cons] at hmm
  rcases hmm with e | e | e | e | e
  ·exact nr (by simp [e])
  ·exact nfX (by simp [e])
  ·exact nkX (by simp [e])
  ·exact nkp (by simp [e])
  ·exact nk e
 have dK1 : ∀ q ∈ SA.bk a, q ≠ mk /\ q ∉ (B.rb :: B.fb :: B.kb :: B.kp :: Ks) := fun q hq => ⟨(d3 q hq).1, fun hmm => by
  simp only [List.mem_cons] at hmm
  rcases hmm with e | e | e | e | e
  ·exact nr1 (by rw [<- e]; simp [hq])
  ·exact nfX1 (by rw [<- e]; simp [hq])
  ·exact nkX1 (by rw [<- e]; simp [hq])
  ·exact nkp1 (by rw [<- e]; simp [hq])
  ·exact (d3 q hq).2 e⟩
 simp (maxSteps := 2000000) -implicitDefEqProofs (disch := (first | omega | rfl | assumption | (simp only [rsD]; first | omega | assumption))) only [hb1, Nat.reduceAdd, Nat.reduceMul, Nat.reduceLT, Int.reduceToNat, Int.reduceAdd, Int.reduceSub, Int.reduceMul, rsU, rsC]
 refine Ok.step (rturn_h hG sg (by omega) (by omega) ⟨u1, u2, by omega⟩ hmk1 d1 d2 dK1 (by simp [hob]) hW1) fun r ⟨g4, a', M2, P', w', h2, s2, L2, e1, e2, e3, kp2, oth, v1, v2, v3⟩ => ?_
 obtain ⟨q, J2⟩ := r
 simp only at g4 h2 e1 e2 kp2
 subst g4
 simp (maxSteps := 2000000) -implicitDefEqProofs (disch := (first | omega | rfl | assumption | (simp only [rsD]; first | omega | assumption))) only [Nat.reduceAdd, Nat.reduceMul, Nat.reduceLT, Int.reduceToNat, Int.reduceAdd, Int.reduceSub, Int.reduceMul, rsU, rsC]
 have R2 := RootAt.asG R1 h2 L2.id oth kp2 fun q hq => (e3 q hq).2
 have hFL : nz F.L.flatten ++ S.G.filled = S.filled := by unfold RS.filled; rw [hL]
 rw [hFL] at e1 e2
 refine Ok_some.2 ⟨rfl, a', e1, e2, fun q hq => ⟨(e3 q hq).1, fun hm => (e3 q hq).2 (by simp [hm])⟩, ⟨M2, F1, wF1, P', C, w', P2, C2, w2, R2, ?_, s2, sk, bg.like L2, bk.up, ?_, v1, v2, by omega⟩, kp1.trans (kp2.mono fun q hq => by simp [hq])⟩
 ·show S.L.map _ = _
  rw [hL, g3]
 ·rw [g3]; simp; omega
theorem rxturnw : Ok (roots_Roots__TurnWeak [.p (some (.n B.rb, 0)), .fn (some (.func 129, [], [.p (some (.n mk, 0)), .p (some (.n ob, 0))]))] J) fun r => r.1 = .tup [] /\ ∃ a, r.2.blk mk = some (.cells true 70 [.sl a S.K.filled.length]) /\ OwnS r.2 T_uint64 1 a S.K.filled.length (S.K.filled.map (AV.i .u64)) /\ (∀ q ∈ SA.bk a, q ≠ mk /\ q ∉ Ks) /\ RX r.2 B { S with K := S.K.more W } (mk :: (SA.bk a ++ Ks)) (k + 1) (m + 100000) /\ Keep Ks J r.2 := by
 obtain ⟨M, F, wF, P, C, w, P2, C2, w2, R, hL, sg, sk, bg, bk, hn, m1, m2, m3⟩ := h.it
 obtain ⟨elb, hb⟩ := R.b
 have hce := R.k.ce
 have hbe := bk.e
 have nr := R.nx
 have ngX := R.g.nx
 have ngp := R.g.p.nx
 have nfX := R.f.nx
 have hK : HanAt J B.kb B.kp B.mb M P2 C2 w2 (mk :: (SA.bk .nil ++ (B.rb :: B.fb :: B.gb :: B.gp :: Ks))) := R.k.mono fun q hq => by
  simp only [SA.bk, List.nil_append, List.mem_cons] at hq ⊢
  rcases hq with e | e | e | e | e | e <;> simp [e]
 have hmk1 : mk ∉ (B.rb :: B.fb :: B.gb :: B.gp :: Ks) := fun hmm => by
  simp only [List.mem_cons] at hmm
  rcases hmm with e | e | e | e | e
  ·exact nr (by simp [e])
  ·exact nfX (by simp [e])
  ·exact ngX (by simp [e])
  ·exact ngp (by simp [e])
  ·exact nk e
 simp (maxSteps := 2000000) -implicitDefEqProofs (disch := (first | omega | rfl | assumption | (simp only [rsD]; first | omega | assumption))) only [roots_Roots__TurnWeak, roots_Roots__TurnWeak_c, hb, Nat.reduceAdd, Nat.reduceMul, Nat.reduceLT, Int.reduceToNat, Int.reduceAdd, Int.reduceSub, Int.reduceMul, rsU, rsC]
 refine Ok.step (rturn_h hK sk (by omega) (T := []) (by simp) ⟨m1, m2, by omega⟩ hmk1 bmk (OwnS.nil _ _ _) (by simp [SA.bk]) (by simp [hob]) hW) fun r ⟨g4, a', M2, P', w', h2, s2, L2, e1, e2, e3, kp2, oth, v1, v2, v3⟩ => ?_
 obtain ⟨q, J2⟩ := r
 simp only at g4 h2 e1 e2 kp2
 subst g4
 simp (maxSteps := 2000000) -implicitDefEqProofs (disch := (first | omega | rfl | assumption | (simp only [rsD]; first | omega | assumption))) only [Nat.reduceAdd, Nat.reduceMul, Nat.reduceLT, Int.reduceToNat, Int.reduceAdd, Int.reduceSub, Int.reduceMul, rsU, rsC]
 have R2 := RootAt.asK (a := .nil) (by simpa [SA.bk] using R) h2 L2.id oth kp2 fun q hq => (e3 q hq).2
 rw [List.nil_append] at e1 e2
 exact Ok_some.2 ⟨rfl, a', e1, e2, fun q hq => ⟨(e3 q hq).1, fun hm => (e3 q hq).2 (by simp [hm])⟩, ⟨M2, F, wF, P, C, w, P', C2, w', R2, hL, sg, s2, bg.up, bk.like L2, by omega, v1, v2, by omega⟩, kp2.mono fun q hq => by simp [hq]⟩
end
end Go.Abs.Tryz
