/-
  Layer 10: entries are taken, given back, read and written. No conditions.
-/
import Derived.Test.YtgmffmgbaelohaaM10
set_option linter.unusedVariables false
set_option linter.unusedSimpArgs false
set_option linter.constructorNameAsVariable false
set_option linter.unusedSimpArgs false
set_option linter.unusedVariables false
set_option linter.unusedSectionVars false
set_option maxHeartbeats 1000000
namespace Go.Abs.Try
open Go Go.Abs
variable {O : Type}

theorem pat_b {σ : AH O} {pb mb : Nat} {S : PoolS} (hb : σ.blk pb = some (.cells true T_pool_Pool (S.cells mb))) (hw : 1 ≤ S.words ∧ S.words ≤ 60) {i : Nat} {k : Int} (hi : i * (S.words + 1) ≤ 4194304) (hi2 : i ≤ 4194304) (hk : -1 ≤ k ∧ k ≤ 100) :
    pool_Pool__at [.p (some (.n pb, 0)), .i .i64 ((i : Int) + 1), .i .i64 k] σ = some (.i .i64 (((i * (S.words + 1) : Nat) : Int) + 1 + k), σ) := by
  simp only [PoolS.cells] at hb
  have wd : pool_Pool__width [.p (some (.n pb, 0))] σ = some (.i .i64 ((S.words : Int) + 1), σ) := by simp (config := { maxSteps := 2000000 }) -implicitDefEqProofs (disch := (first | omega | rfl | assumption | (simp only [rsD]; first | omega | assumption))) only [pool_Pool__width, pool_Pool__width_c, hb, Nat.reduceAdd, Nat.reduceMul, Nat.reduceLT, Int.reduceToNat, Int.reduceAdd, Int.reduceSub, Int.reduceMul, rsU, rsC]
  have e1 : (i : Int) + 1 - 1 = i := by omega
  have e2 : (i : Int) * ((S.words : Int) + 1) = ((i * (S.words + 1) : Nat) : Int) := by simp
  generalize i * (S.words + 1) = P at *
  simp (config := { maxSteps := 2000000 }) -implicitDefEqProofs (disch := (first | omega | rfl | assumption | (simp only [rsD]; first | omega | assumption))) only [pool_Pool__at, pool_Pool__at_c, wd, e1, e2, Nat.reduceAdd, Nat.reduceMul, Nat.reduceLT, Int.reduceToNat, Int.reduceAdd, Int.reduceSub, Int.reduceMul, rsU, rsC]
/-- the room behind a call for one entry more -/
def PoolS.more (S : PoolS) : Nat := if S.E.length < S.room then S.room else max 8 (2 * S.room)
def PE.fresh (n : Nat) : PE := ⟨true, 0, List.replicate n 0⟩
section
variable {σ : AH O} {pb mb : Nat} {M : MemS} {S : PoolS} {w : List Int} {X : List Nat} (h : PoolAt σ pb mb M S w X) (hc : M.calm)
include h hc
theorem pgrow_ok (hE : S.E.length < 1048576) (hR : S.more * (S.words + 1) ≤ 4194304) :
    Ok (pool_Pool__grow [.p (some (.n pb, 0))] σ) fun r => r.1 = .i .i64 0 ∧ ∃ M' w', PoolAt r.2 pb mb M' { S with room := S.more } w' X ∧ Wrt M M' S.id w' 0 0 ∧ Keep X σ r.2 := by
  have hb := h.b
  simp only [PoolS.cells] at hb
  have hlt := h.lt
  have hlen := h.p.len
  have hmd := h.p.made
  have hw := h.p.words
  by_cases c : S.E.length < S.room
  · have e : S.more = S.room := if_pos c
    simp (config := { maxSteps := 2000000 }) -implicitDefEqProofs (disch := (first | omega | rfl | assumption | (simp only [rsD]; first | omega | assumption))) only [pool_Pool__grow, pool_Pool__grow_c, hb, Nat.reduceAdd, Nat.reduceMul, Nat.reduceLT, Int.reduceToNat, Int.reduceAdd, Int.reduceSub, Int.reduceMul, rsU, rsC]
    rw [e]
    exact Ok_some.2 ⟨rfl, M, w, h, Wrt.refl h.now, Keep.refl _ _⟩
  · have e : S.more = max 8 (2 * S.room) := if_neg c
    have wd := pwidth_ok h
    have hr2 : S.more * 1 ≤ S.more * (S.words + 1) := Nat.mul_le_mul_left _ (by omega)
    have e1 : (if (2 * (S.room : Int)) > 8 then (2 * (S.room : Int)) else 8) = (S.more : Int) := by rw [e]; split <;> omega
    have e2 : (S.more : Int) * ((S.words : Int) + 1) = ((S.more * (S.words + 1) : Nat) : Int) := by simp
    have hge : S.room * (S.words + 1) ≤ S.more * (S.words + 1) := Nat.mul_le_mul_right _ (by omega)
    have hsub : S.more * (S.words + 1) - S.room * (S.words + 1) = (S.more - S.room) * (S.words + 1) := (Nat.sub_mul _ _ _).symm
    have hrE : S.room = S.E.length := by omega
    have hrm : S.more ≤ 4194304 := by omega
    have hpow : ∃ k : Nat, S.more = 8 * 2 ^ k := by
      rw [e]
      rcases h.p.pow with g | ⟨k, g⟩
      · exact ⟨0, by omega⟩
      · have := Nat.two_pow_pos k
        exact ⟨k + 1, by rw [Nat.pow_succ]; omega⟩
    generalize hQ : S.more * (S.words + 1) = Q at *
    generalize hP : S.room * (S.words + 1) = P at *
    generalize hmr : S.more = R at *
    simp (config := { maxSteps := 2000000 }) -implicitDefEqProofs (disch := (first | omega | rfl | assumption | (simp only [rsD]; first | omega | assumption))) only [pool_Pool__grow, pool_Pool__grow_c, hb, wd, e1, e2, Nat.reduceAdd, Nat.reduceMul, Nat.reduceLT, Int.reduceToNat, Int.reduceAdd, Int.reduceSub, Int.reduceMul, rsU, rsC]
    refine Ok.step (growX h.mi hc h.now (n := (Q : Int)) (by omega) (by omega)) fun r ⟨p1, M', p2, p3, p4⟩ => ?_
    obtain ⟨q, σ1⟩ := r
    simp only at p1 p2 p4
    subst p1
    have hb1 : σ1.blk pb = _ := p4.head.trans hb
    have e0 : ((0 : Int) != 0) = false := rfl
    simp (config := { maxSteps := 2000000 }) -implicitDefEqProofs (disch := (first | omega | rfl | assumption | (simp only [rsD]; first | omega | assumption))) only [e0, hb1, Nat.reduceAdd, Nat.reduceMul, Nat.reduceLT, Int.reduceToNat, Int.reduceAdd, Int.reduceSub, Int.reduceMul, rsU, rsC]
    rw [Int.toNat_natCast, hlen, hsub] at p3
    refine Ok_some.2 ⟨rfl, M', _, ⟨p2.put List.mem_cons_self _, s_bs, h.nx, p3.words h.now, h.p.words, ?_, ?_, .inr hpow, h.p.wl, h.p.ch, h.p.nd, h.p.cnt, h.p.gen⟩, p3, p4.tail.trans (Keep.put h.nx _)⟩
    · have hl := h.p.lay
      show w ++ _ = S.E.flatMap PE.enc ++ List.replicate ((R - S.E.length) * (S.words + 1)) 0
      rw [hl, hrE]; simp
    · show S.E.length ≤ R
      omega
/-- a number that nobody had -/
theorem ptake_new (hf : S.free = []) (hE : S.E.length < 1048576) (hR : S.more * (S.words + 1) ≤ 4194304) (hmw : M.met.w + 100 < 85070591730234615865843651857942052864) :
    Ok (pool_Pool__Take [.p (some (.n pb, 0))] σ) fun r => r.1 = .tup [.i .i64 ((S.E.length : Int) + 1), .i .i64 0] ∧ ∃ M' w', PoolAt r.2 pb mb M' { S with room := S.more, E := S.E ++ [PE.fresh S.words], taken := S.taken + 1 } w' X ∧ Wrt M M' S.id w' 0 1 ∧ Keep X σ r.2 := by
  have hb := h.b
  simp only [PoolS.cells, hf, hd] at hb
  have hlt := h.lt
  have e00 : (((0 : Nat) : Int) == 0) = true := rfl
  have e0 : ((0 : Int) != 0) = false := rfl
  simp (config := { maxSteps := 2000000 }) -implicitDefEqProofs (disch := (first | omega | rfl | assumption | (simp only [rsD]; first | omega | assumption))) only [pool_Pool__Take, pool_Pool__Take_c, hb, e00, Nat.reduceAdd, Nat.reduceMul, Nat.reduceLT, Int.reduceToNat, Int.reduceAdd, Int.reduceSub, Int.reduceMul, rsU, rsC]
  refine Ok.step (pgrow_ok h hc hE hR) fun r ⟨p1, M1, w1, p2, p3, p4⟩ => ?_
  obtain ⟨q, σ1⟩ := r
  simp only at p1 p2 p4
  subst p1
  have hb1 := p2.b
  simp only [PoolS.cells, hf, hd] at hb1
  have hlt1 := p2.lt
  have hp2 := p2.p
  have hlen := hp2.len
  simp only at hlen
  have hwl := p2.wle
  have hw := h.p.words
  have hmd := hp2.made
  simp only at hmd
  have hlt2 : S.E.length < S.more := by have := h.p.made; unfold PoolS.more; split <;> omega
  have hpos : S.E.length * (S.words + 1) + (S.words + 1) ≤ w1.length := by rw [hlen, ← Nat.succ_mul]; exact Nat.mul_le_mul_right _ hlt2
  have hcount : S.taken ≤ S.E.length := by rw [h.p.cnt]; exact List.countP_le_length
  simp (config := { maxSteps := 2000000 }) -implicitDefEqProofs (disch := (first | omega | rfl | assumption | (simp only [rsD]; first | omega | assumption))) only [e0, hb1, Nat.reduceAdd, Nat.reduceMul, Nat.reduceLT, Int.reduceToNat, Int.reduceAdd, Int.reduceSub, Int.reduceMul, rsU, rsC]
  generalize hσ : σ1.put pb (.cells true _ _) = σ2
  have hb2 : σ2.blk pb = some (.cells true T_pool_Pool (PoolS.cells { S with room := S.more, E := S.E ++ [PE.fresh S.words] } mb)) := by
    rw [← hσ, s_bs]; simp [PoolS.cells, hf, hd]
  have mi2 : MemIn σ2 mb M1 (pb :: X) := by rw [← hσ]; exact p2.mi.put List.mem_cons_self _
  have k2 : Keep X σ1 σ2 := by rw [← hσ]; exact Keep.put h.nx _
  clear hσ
  have pa := pat_b (i := S.E.length) (k := -1) hb2 hw (by show S.E.length * (S.words + 1) ≤ _; omega) (by omega) ⟨by omega, by omega⟩
  simp only at pa
  rw [show ((S.E.length * (S.words + 1) : Nat) : Int) + 1 + -1 = ((S.E.length * (S.words + 1) : Nat) : Int) by omega] at pa
  have hb2' := hb2
  simp only [PoolS.cells, hf, hd, List.length_append, List.length_cons, List.length_nil] at hb2'
  simp (config := { maxSteps := 2000000 }) -implicitDefEqProofs (disch := (first | omega | rfl | assumption | (simp only [rsD]; first | omega | assumption))) only [pa, hb2', Nat.reduceAdd, Nat.reduceMul, Nat.reduceLT, Int.reduceToNat, Int.reduceAdd, Int.reduceSub, Int.reduceMul, rsU, rsC]
  have hr1 := p3.r
  have hw1 := p3.w
  have hcr := hc.r
  have hcw := hc.w
  refine Ok.step (writeX mi2 ⟨by omega, by omega⟩ p2.now (at_ := ((S.E.length * (S.words + 1) : Nat) : Int)) (x := 1) (by omega) (by omega)) fun r ⟨q1, M3, q2, q3, q4⟩ => ?_
  obtain ⟨q, σ3⟩ := r
  simp only at q1 q2 q4
  subst q1
  have hb3 : σ3.blk pb = _ := q4.head.trans hb2'
  simp (config := { maxSteps := 2000000 }) -implicitDefEqProofs (disch := (first | omega | rfl | assumption | (simp only [rsD]; first | omega | assumption))) only [hb3, Nat.reduceAdd, Nat.reduceMul, Nat.reduceLT, Int.reduceToNat, Int.reduceAdd, Int.reduceSub, Int.reduceMul, rsU, rsC]
  rw [Int.toNat_natCast] at q3
  have hst : w1.set (S.E.length * (S.words + 1)) 1 = (S.E ++ [PE.fresh S.words]).flatMap PE.enc ++ List.replicate ((S.more - (S.E ++ [PE.fresh S.words]).length) * (S.words + 1)) 0 := by
    have hl := hp2.lay
    simp only at hl
    have hfl := fl_len hp2.el
    simp only at hfl
    rw [hl, List.set_append_right _ _ (by omega), hfl, Nat.sub_self, List.length_append, List.length_singleton]
    have e1 : (S.more - S.E.length) * (S.words + 1) = S.words + 1 + (S.more - (S.E.length + 1)) * (S.words + 1) := by
      have : S.more - S.E.length = S.more - (S.E.length + 1) + 1 := by omega
      rw [this, Nat.succ_mul]; omega
    rw [e1, ← List.replicate_append_replicate, List.replicate_succ]
    simp [PE.enc, PE.fresh, PE.st]
  refine Ok_some.2 ⟨rfl, M3, _, ⟨q2.put List.mem_cons_self _, s_bs.trans ?_, h.nx, q3.words p2.now, h.p.words, hst, ?_, hp2.pow, ?_, fchain_app h.p.ch, h.p.nd, ?_, ?_⟩, (p3.trans q3).as rfl (by omega) (by omega), ((p4.trans k2).trans q4.tail).trans (Keep.put h.nx _)⟩
  · simp [PoolS.cells, hf, hd]
  · simp; omega
  · intro e he
    rcases List.mem_append.1 he with he | he
    · exact h.p.wl e he
    · simp at he; subst he; simp [PE.fresh]
  · show S.taken + 1 = _
    rw [List.countP_append, h.p.cnt]; rfl
  · intro e he
    rcases List.mem_append.1 he with he | he
    · exact h.p.gen e he
    · simp at he; subst he; simp [PE.fresh]
/-- the number that was given back last -/
theorem ptake_old {i : Nat} {r : List Nat} (hf : S.free = (i + 1) :: r) (hm : M.met.r + 100 < 85070591730234615865843651857942052864 ∧ M.met.w + 100 < 85070591730234615865843651857942052864) :
    ∃ e, S.E[i]? = some e ∧ e.tk = false ∧ Ok (pool_Pool__Take [.p (some (.n pb, 0))] σ) fun q => q.1 = .tup [.i .i64 ((i : Int) + 1), .i .i64 0] ∧ ∃ M' w', PoolAt q.2 pb mb M' { S with E := S.E.set i ⟨true, e.gen, List.replicate S.words 0⟩, free := r, taken := S.taken + 1 } w' X ∧ Wrt M M' S.id w' 2 (1 + S.words) ∧ Keep X σ q.2 := by
  have hch := h.p.ch
  rw [hf] at hch
  obtain ⟨⟨e, _, he, htk, hlk⟩, hch'⟩ := hch
  rw [Nat.add_sub_cancel] at he
  refine ⟨e, he, htk, ?_⟩
  have hnd := h.p.nd
  rw [hf] at hnd
  have hni : ∀ j ∈ r, j ≠ i + 1 := fun j hj e => by rw [e] at hj; exact (List.nodup_cons.1 hnd).1 hj
  have hb := h.b
  simp only [PoolS.cells, hf, hd] at hb
  have hlt := h.lt
  have hiE := (List.getElem?_eq_some_iff.1 he).1
  have hpos := h.p.pos he
  have hwl := h.wle
  have hst := h.p.st he
  have hw := h.p.words
  have hl0 := h.p.at he (k := 0) (by omega)
  rw [hlk, Nat.add_zero] at hl0
  have hlen := h.p.len
  have hrng := st_rng (h.p.gen e (List.mem_of_getElem? he))
  have hr4 : hd r ≤ 4194304 := by
    cases r with
    | nil => exact Nat.zero_le _
    | cons j r' =>
      obtain ⟨⟨e2, h1, h2, _⟩, _⟩ := hch'
      have := (List.getElem?_eq_some_iff.1 h2).1
      have hmd := h.p.made
      have h3 : S.room * 1 ≤ S.room * (S.words + 1) := Nat.mul_le_mul_left _ (by omega)
      simp only [hd]; omega
  have hi2 : i ≤ 4194304 := by
    have h1 : i * 1 ≤ i * (S.words + 1) := Nat.mul_le_mul_left _ (by omega)
    omega
  have hcount : S.taken ≤ S.E.length := by rw [h.p.cnt]; exact List.countP_le_length
  have hE4 : S.E.length ≤ 4194304 := by
    have hmd := h.p.made
    have h3 : S.room * 1 ≤ S.room * (S.words + 1) := Nat.mul_le_mul_left _ (by omega)
    omega
  have c1 : (((i + 1 : Nat) : Int)) = (i : Int) + 1 := by omega
  rw [c1] at hb
  have e00 : ((i : Int) + 1 == 0) = false := by simp; omega
  have e0 : ((0 : Int) != 0) = false := rfl
  have t0 : ((i * (S.words + 1) : Nat) : Int) + 1 + 0 = ((i * (S.words + 1) + 1 : Nat) : Int) := by omega
  have t1 : ((i * (S.words + 1) : Nat) : Int) + 1 + -1 = ((i * (S.words + 1) : Nat) : Int) := by omega
  have at0 : ∀ {σ' : AH O}, σ'.blk pb = some (.cells true T_pool_Pool (S.cells mb)) → pool_Pool__at [.p (some (.n pb, 0)), .i .i64 ((i : Int) + 1), .i .i64 0] σ' = some (.i .i64 ((i * (S.words + 1) + 1 : Nat) : Int), σ') := fun hb' => by
    rw [← t0]; exact pat_b (k := 0) hb' hw (by omega) hi2 ⟨by omega, by omega⟩
  have at1 : ∀ {σ' : AH O}, σ'.blk pb = some (.cells true T_pool_Pool (S.cells mb)) → pool_Pool__at [.p (some (.n pb, 0)), .i .i64 ((i : Int) + 1), .i .i64 (-1)] σ' = some (.i .i64 ((i * (S.words + 1) : Nat) : Int), σ') := fun hb' => by
    rw [← t1]; exact pat_b (k := -1) hb' hw (by omega) hi2 ⟨by omega, by omega⟩
  have hcells : ∀ {σ' : AH O}, σ'.blk pb = σ.blk pb → σ'.blk pb = some (.cells true T_pool_Pool (S.cells mb)) := fun h1 => h1.trans h.b
  have hlay := h.p.lay
  have hfin : patched (w.set (i * (S.words + 1)) (e.st + 1)) (i * (S.words + 1) + 1) (List.replicate S.words 0) = (S.E.set i ⟨true, e.gen, List.replicate S.words 0⟩).flatMap PE.enc ++ List.replicate ((S.room - S.E.length) * (S.words + 1)) 0 := by
    have s1 := fl_put h.p.el he (j := 0) (by omega) (List.replicate ((S.room - S.E.length) * (S.words + 1)) 0) (x := e.st + 1) (y := ⟨true, e.gen, e.ws⟩) (by simp [PE.enc, PE.st, htk])
    rw [← hlay, Nat.add_zero] at s1
    rw [s1]
    have he' : (S.E.set i ⟨true, e.gen, e.ws⟩)[i]? = some ⟨true, e.gen, e.ws⟩ := by rw [List.getElem?_set]; simp [hiE]
    have hel' : ∀ x ∈ S.E.set i ⟨true, e.gen, e.ws⟩, x.enc.length = S.words + 1 := fun x hx => by
      rcases mem_set' hx with rfl | hx
      · simp [PE.enc, h.p.wl e (List.mem_of_getElem? he)]
      · exact h.p.el x hx
    have s2 := fl_patch hel' he' (j := 1) (List.replicate ((S.room - S.E.length) * (S.words + 1)) 0) (v := List.replicate S.words 0) (y := ⟨true, e.gen, List.replicate S.words 0⟩) (by rw [List.length_replicate]; omega) (by
      have := h.p.wl e (List.mem_of_getElem? he)
      simp [PE.enc, PE.st, patched, ← this]; omega)
    rw [s2, List.set_set]
  generalize hP : i * (S.words + 1) = P at *
  simp (config := { maxSteps := 2000000 }) -implicitDefEqProofs (disch := (first | omega | rfl | assumption | (simp only [rsD]; first | omega | assumption))) only [pool_Pool__Take, pool_Pool__Take_c, hb, e00, at0 h.b, Nat.reduceAdd, Nat.reduceMul, Nat.reduceLT, Int.reduceToNat, Int.reduceAdd, Int.reduceSub, Int.reduceMul, rsU, rsC]
  refine Ok.step (readX h.mi hc h.now (at_ := ((P + 1 : Nat) : Int)) (by omega) (by omega)) fun q ⟨p1, M1, p2, p3, p4⟩ => ?_
  obtain ⟨q, σ1⟩ := q
  simp only at p1 p2 p4
  rw [Int.toNat_natCast, List.getD_eq_getElem?_getD, hl0] at p1
  simp only [Option.getD_some] at p1
  subst p1
  have hb1 : σ1.blk pb = _ := p4.head.trans hb
  simp (config := { maxSteps := 2000000 }) -implicitDefEqProofs (disch := (first | omega | rfl | assumption | (simp only [rsD]; first | omega | assumption))) only [hb1, at1 (hcells p4.head), Nat.reduceAdd, Nat.reduceMul, Nat.reduceLT, Int.reduceToNat, Int.reduceAdd, Int.reduceSub, Int.reduceMul, rsU, rsC]
  have hr1 := p3.r
  have hw1 := p3.w
  refine Ok.step (readX p2 ⟨by omega, by omega⟩ (p3.words h.now) (at_ := (P : Int)) (by omega) (by omega)) fun q ⟨q1, M2, q2, q3, q4⟩ => ?_
  obtain ⟨q, σ2⟩ := q
  simp only at q1 q2 q4
  rw [Int.toNat_natCast, List.getD_eq_getElem?_getD, hst] at q1
  simp only [Option.getD_some] at q1
  subst q1
  have hb2 : σ2.blk pb = _ := q4.head.trans hb1
  have e5 : ibits .or .u64 e.st 1 = e.st + 1 := or_one_u64 hrng.1 (by omega) (by rw [st_tk, htk]; rfl)
  simp (config := { maxSteps := 2000000 }) -implicitDefEqProofs (disch := (first | omega | rfl | assumption | (simp only [rsD]; first | omega | assumption))) only [hb2, at1 (hcells (q4.head.trans p4.head)), e5, Nat.reduceAdd, Nat.reduceMul, Nat.reduceLT, Int.reduceToNat, Int.reduceAdd, Int.reduceSub, Int.reduceMul, rsU, rsC]
  have hr2 := q3.r
  have hw2 := q3.w
  refine Ok.step (writeX q2 ⟨by omega, by omega⟩ (q3.words (p3.words h.now)) (at_ := (P : Int)) (x := e.st + 1) (by omega) (by omega)) fun q ⟨m1, M3, m2, m3, m4⟩ => ?_
  obtain ⟨q, σ3⟩ := q
  simp only at m1 m2 m4
  subst m1
  have hb3 : σ3.blk pb = _ := m4.head.trans hb2
  rw [Int.toNat_natCast] at m3
  simp (config := { maxSteps := 2000000 }) -implicitDefEqProofs (disch := (first | omega | rfl | assumption | (simp only [rsD]; first | omega | assumption))) only [hb3, at0 (hcells (m4.head.trans (q4.head.trans p4.head))), Nat.reduceAdd, Nat.reduceMul, Nat.reduceLT, Int.reduceToNat, Int.reduceAdd, Int.reduceSub, Int.reduceMul, rsU, rsC]
  have hr3 := m3.r
  have hw3 := m3.w
  refine Ok.step (zeroX m2 ⟨by omega, by omega⟩ (m3.words (q3.words (p3.words h.now))) (at_ := ((P + 1 : Nat) : Int)) (n := (S.words : Int)) (by omega) (by omega) (by rw [List.length_set]; omega)) fun q ⟨n1, M4, n2, n3, n4⟩ => ?_
  obtain ⟨q, σ4⟩ := q
  simp only at n1 n2 n4
  subst n1
  have hb4 : σ4.blk pb = _ := n4.head.trans hb3
  have hlt4 := n2.lt pb List.mem_cons_self
  rw [Int.toNat_natCast, Int.toNat_natCast] at n3
  have hr4' := n3.r
  have hw4 := n3.w
  simp (config := { maxSteps := 2000000 }) -implicitDefEqProofs (disch := (first | omega | rfl | assumption | (simp only [rsD]; first | omega | assumption))) only [hb4, Nat.reduceAdd, Nat.reduceMul, Nat.reduceLT, Int.reduceToNat, Int.reduceAdd, Int.reduceSub, Int.reduceMul, rsU, rsC]
  rw [hfin] at n3
  have hcn := cnt_set (p := fun x : PE => x.tk) (x := ⟨true, e.gen, List.replicate S.words 0⟩) he
  simp only [htk] at hcn
  refine Ok_some.2 ⟨rfl, M4, _, ⟨n2.put List.mem_cons_self _, s_bs.trans ?_, h.nx, n3.words (m3.words (q3.words (p3.words h.now))), ?_⟩, (((p3.trans q3).trans m3).trans n3).as rfl (by omega) (by omega), (((p4.tail.trans q4.tail).trans m4.tail).trans n4.tail).trans (Keep.put h.nx _)⟩
  · simp [PoolS.cells]
  · exact h.p.set he rfl (by simp) (h.p.gen e (List.mem_of_getElem? he)) (fchain_set hch' hni) (List.nodup_cons.1 hnd).2 (by rw [h.p.cnt]; simp at hcn; omega)
/-- what is given back -/
theorem pgive_ok {i : Nat} {e : PE} (he : S.E[i]? = some e) (htk : e.tk = true) (hg : e.gen + 1 < 4611686018427387904) (hm : M.met.r + 100 < 85070591730234615865843651857942052864 ∧ M.met.w + 100 < 85070591730234615865843651857942052864) :
    Ok (pool_Pool__Give [.p (some (.n pb, 0)), .i .i64 ((i : Int) + 1)] σ) fun q => q.1 = .i .i64 0 ∧ ∃ M' w', PoolAt q.2 pb mb M' { S with E := S.E.set i ⟨false, e.gen + 1, e.ws.set 0 (hd S.free)⟩, free := (i + 1) :: S.free, taken := S.taken - 1 } w' X ∧ Wrt M M' S.id w' 1 2 ∧ Keep X σ q.2 := by
  have hch := h.p.ch
  have hnd := h.p.nd
  have hni : i + 1 ∉ S.free := fun hm => by
    obtain ⟨e2, h1, h2, h3⟩ := fchain_tk hch _ hm
    rw [Nat.add_sub_cancel, he] at h2
    cases h2; rw [htk] at h3; cases h3
  have hb := h.b
  simp only [PoolS.cells] at hb
  have hlt := h.lt
  have hiE := (List.getElem?_eq_some_iff.1 he).1
  have hpos := h.p.pos he
  have hwl := h.wle
  have hw := h.p.words
  have hlen := h.p.len
  have hrng := st_rng (h.p.gen e (List.mem_of_getElem? he))
  have hcount : S.taken ≤ S.E.length := by rw [h.p.cnt]; exact List.countP_le_length
  have hmd := h.p.made
  have h3 : S.room * 1 ≤ S.room * (S.words + 1) := Nat.mul_le_mul_left _ (by omega)
  have hfr4 : hd S.free ≤ 4194304 := by
    cases hf : S.free with
    | nil => exact Nat.zero_le _
    | cons j r' =>
      rw [hf] at hch
      obtain ⟨⟨e2, h1, h2, _⟩, _⟩ := hch
      have := (List.getElem?_eq_some_iff.1 h2).1
      simp only [hd]; omega
  have hi2 : i ≤ 4194304 := by omega
  have hcn := cnt_set (p := fun x : PE => x.tk) (x := ⟨false, e.gen + 1, e.ws.set 0 (hd S.free)⟩) he
  simp only [htk] at hcn
  have htp : 1 ≤ S.taken := by rw [h.p.cnt]; simp at hcn; omega
  have e0 : ((0 : Int) != 0) = false := rfl
  have t0 : ((i * (S.words + 1) : Nat) : Int) + 1 + 0 = ((i * (S.words + 1) + 1 : Nat) : Int) := by omega
  have t1 : ((i * (S.words + 1) : Nat) : Int) + 1 + -1 = ((i * (S.words + 1) : Nat) : Int) := by omega
  have at0 : ∀ {σ' : AH O}, σ'.blk pb = some (.cells true T_pool_Pool (S.cells mb)) → pool_Pool__at [.p (some (.n pb, 0)), .i .i64 ((i : Int) + 1), .i .i64 0] σ' = some (.i .i64 ((i * (S.words + 1) + 1 : Nat) : Int), σ') := fun hb' => by
    rw [← t0]; exact pat_b (k := 0) hb' hw (by omega) hi2 ⟨by omega, by omega⟩
  have at1 : ∀ {σ' : AH O}, σ'.blk pb = some (.cells true T_pool_Pool (S.cells mb)) → pool_Pool__at [.p (some (.n pb, 0)), .i .i64 ((i : Int) + 1), .i .i64 (-1)] σ' = some (.i .i64 ((i * (S.words + 1) : Nat) : Int), σ') := fun hb' => by
    rw [← t1]; exact pat_b (k := -1) hb' hw (by omega) hi2 ⟨by omega, by omega⟩
  have hlay := h.p.lay
  have hwl1 := h.p.wl e (List.mem_of_getElem? he)
  have hfin : (w.set (i * (S.words + 1)) (2 * ((e.gen : Int) + 1))).set (i * (S.words + 1) + 1) (hd S.free) = (S.E.set i ⟨false, e.gen + 1, e.ws.set 0 (hd S.free)⟩).flatMap PE.enc ++ List.replicate ((S.room - S.E.length) * (S.words + 1)) 0 := by
    have s1 := fl_put h.p.el he (j := 0) (by omega) (List.replicate ((S.room - S.E.length) * (S.words + 1)) 0) (x := 2 * ((e.gen : Int) + 1)) (y := ⟨false, e.gen + 1, e.ws⟩) (by simp [PE.enc, PE.st])
    rw [← hlay, Nat.add_zero] at s1
    rw [s1]
    have he' : (S.E.set i ⟨false, e.gen + 1, e.ws⟩)[i]? = some ⟨false, e.gen + 1, e.ws⟩ := by rw [List.getElem?_set]; simp [hiE]
    have hel' : ∀ x ∈ S.E.set i ⟨false, e.gen + 1, e.ws⟩, x.enc.length = S.words + 1 := fun x hx => by
      rcases mem_set' hx with rfl | hx
      · simp [PE.enc, hwl1]
      · exact h.p.el x hx
    have s2 := fl_put hel' he' (j := 1) (by omega) (List.replicate ((S.room - S.E.length) * (S.words + 1)) 0) (x := (hd S.free : Int)) (y := ⟨false, e.gen + 1, e.ws.set 0 (hd S.free)⟩) (by
      simp [PE.enc, PE.st])
    rw [s2, List.set_set]
  generalize hP : i * (S.words + 1) = P at *
  have e6 : (ibits .and .u64 e.st 1 == 0) = false := by
    rw [and_one_u64 hrng.1 (by omega), st_tk, htk]; rfl
  have e7 : Int.fdiv e.st (2 ^ 1) = e.gen := by rw [fdiv1, st_gen]
  have e8 : IntKind.u64.wrap (((e.gen : Int) + 1) * 2 ^ 1) = 2 * ((e.gen : Int) + 1) := by
    rw [show (2 : Int) ^ 1 = 2 from rfl, s_u64 (by omega)]; omega
  simp (config := { maxSteps := 2000000 }) -implicitDefEqProofs (disch := (first | omega | rfl | assumption | (simp only [rsD]; first | omega | assumption))) only [pool_Pool__Give, pool_Pool__Give_c, Nat.reduceAdd, Nat.reduceMul, Nat.reduceLT, Int.reduceToNat, Int.reduceAdd, Int.reduceSub, Int.reduceMul, rsU, rsC]
  refine Ok.step (plook_ok h hc he) fun q ⟨p1, M1, p2, p3, p4⟩ => ?_
  obtain ⟨q, σ1⟩ := q
  simp only at p1 p2 p4
  subst p1
  have hb1 := p2.b
  simp only [PoolS.cells] at hb1
  simp (config := { maxSteps := 2000000 }) -implicitDefEqProofs (disch := (first | omega | rfl | assumption | (simp only [rsD]; first | omega | assumption))) only [e6, hb1, at1 p2.b, e7, e8, Nat.reduceAdd, Nat.reduceMul, Nat.reduceLT, Int.reduceToNat, Int.reduceAdd, Int.reduceSub, Int.reduceMul, rsU, rsC]
  have hr1 := p3.r
  have hw1 := p3.w
  refine Ok.step (writeX p2.mi ⟨by omega, by omega⟩ p2.now (at_ := (P : Int)) (x := 2 * ((e.gen : Int) + 1)) (by omega) (by omega)) fun q ⟨m1, M3, m2, m3, m4⟩ => ?_
  obtain ⟨q, σ3⟩ := q
  simp only at m1 m2 m4
  subst m1
  have hb3 : σ3.blk pb = _ := m4.head.trans hb1
  rw [Int.toNat_natCast] at m3
  simp (config := { maxSteps := 2000000 }) -implicitDefEqProofs (disch := (first | omega | rfl | assumption | (simp only [rsD]; first | omega | assumption))) only [hb3, at0 (m4.head.trans p2.b), Nat.reduceAdd, Nat.reduceMul, Nat.reduceLT, Int.reduceToNat, Int.reduceAdd, Int.reduceSub, Int.reduceMul, rsU, rsC]
  have hr3 := m3.r
  have hw3 := m3.w
  refine Ok.step (writeX m2 ⟨by omega, by omega⟩ (m3.words p2.now) (at_ := ((P + 1 : Nat) : Int)) (x := (hd S.free : Int)) (by omega) (by rw [List.length_set]; omega)) fun q ⟨n1, M4, n2, n3, n4⟩ => ?_
  obtain ⟨q, σ4⟩ := q
  simp only at n1 n2 n4
  subst n1
  have hb4 : σ4.blk pb = _ := n4.head.trans hb3
  have hlt4 := n2.lt pb List.mem_cons_self
  rw [Int.toNat_natCast] at n3
  have hr4' := n3.r
  have hw4 := n3.w
  simp (config := { maxSteps := 2000000 }) -implicitDefEqProofs (disch := (first | omega | rfl | assumption | (simp only [rsD]; first | omega | assumption))) only [hb4, Nat.reduceAdd, Nat.reduceMul, Nat.reduceLT, Int.reduceToNat, Int.reduceAdd, Int.reduceSub, Int.reduceMul, rsU, rsC]
  rw [hfin] at n3
  refine Ok_some.2 ⟨rfl, M4, _, ⟨n2.put List.mem_cons_self _, s_bs.trans ?_, h.nx, n3.words (m3.words p2.now), ?_⟩, ((p3.trans m3).trans n3).as rfl (by omega) (by omega), ((p4.trans m4.tail).trans n4.tail).trans (Keep.put h.nx _)⟩
  · simp [PoolS.cells, hd]; omega
  · refine h.p.set he rfl (by simp [hwl1]) hg ?_ (List.nodup_cons.2 ⟨hni, hnd⟩) (by rw [h.p.cnt]; simp at hcn; omega)
    refine ⟨⟨_, by omega, by rw [Nat.add_sub_cancel, List.getElem?_set]; simp [hiE]; rfl, rfl, ?_⟩, fchain_set hch fun j hj e => hni (e ▸ hj)⟩
    rw [List.getElem?_set]; simp [hwl1]; omega
end
end Go.Abs.Try
