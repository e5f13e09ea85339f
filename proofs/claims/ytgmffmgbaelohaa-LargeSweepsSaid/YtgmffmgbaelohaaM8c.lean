/-
  Layer 8: spaces are opened, closed, grown. No conditions.
-/
import Derived.Test.YtgmffmgbaelohaaM8b
set_option linter.unusedVariables false
set_option linter.unusedSimpArgs false
set_option linter.constructorNameAsVariable false
set_option linter.unusedSimpArgs false
namespace Go.Abs.Try
open Go Go.Abs
variable {O : Type}

theorem le_sum {l : List Nat} {x : Nat} (h : x ∈ l) : x ≤ l.sum := by
  induction l with
  | nil => cases h
  | cons y l ih =>
    simp only [List.sum_cons]
    rcases List.mem_cons.1 h with rfl | h
    · omega
    · have := ih h; omega
def MemS.close (M : MemS) (i : Nat) (w : List Int) : MemS := ⟨M.met.free w.length, M.sp.set i (false, []), min M.low i, M.count - 1⟩
theorem close_ok {σ : AH O} {mb : Nat} {F : List Nat} {M : MemS} {id : Int} {w : List Int} (h : MemAt σ mb F M) (hM : M.ok) (h0 : 0 ≤ id) (hid : id ≤ 9223372036854775807) (hw : M.sp[id.toNat]? = some (true, w)) :
    Ok (mem_Mem__Close [.p (some (.n mb, 0)), .i .i64 id] σ) fun r => r.1 = .i .i64 0 ∧ ∃ F', MemAt r.2 mb F' (M.close id.toNat w) ∧ Chg F σ r.2 ∧ Fp F F' σ := by
  obtain ⟨tb, sa, L, rfl, e, hC⟩ := h
  obtain ⟨s, hs, ho, rfl⟩ := getW e hw
  have hlen := hM.len hw
  obtain ⟨k, rfl, hat⟩ := at_some hC h0 hs ho
  obtain ⟨k', e1, hk, hk', g0, how⟩ := hC.at hs
  cases e1
  obtain ⟨el', hm⟩ := hC.m
  have hc1 : 1 ≤ M.count := by
    rw [hM.count]
    have : 0 < M.sp.countP (·.1) := List.countP_pos_iff.2 ⟨_, List.mem_of_getElem? hw, rfl⟩
    omega
  have hc2 : M.count ≤ 262144 := by
    rw [hM.count]
    have := List.countP_le_length (p := fun s : Bool × List Int => s.1) (l := M.sp)
    have := hM.few
    omega
  have hheld : (s.ws.length : Int) ≤ M.met.held := by
    rw [hM.held]
    have : s.ws.length ∈ M.sp.map fun s => s.2.length := List.mem_map.2 ⟨_, List.mem_of_getElem? hw, rfl⟩
    have := le_sum this
    omega
  have hkn := hC.n1 k (by simp [SA.bk])
  have kmb := hkn.1
  have ktb := hkn.2
  have hmlt := hC.mlt
  simp (config := { maxSteps := 2000000 }) -implicitDefEqProofs (disch := (first | omega | rfl | assumption | (simp only [rsD]; first | omega | assumption))) only [mem_Mem__Close, mem_Mem__Close_c, hat, hk, g0, hm, Nat.reduceAdd, Nat.reduceMul, Nat.reduceLT, Int.reduceToNat, Int.reduceAdd, Int.reduceSub, Int.reduceMul, rsU, rsC]
  refine Ok.step (free_ok hC.met hM.met (by omega) hheld) fun r ⟨g1, g2, g3⟩ => ?_
  obtain ⟨q, σ1⟩ := r
  simp only at g1 g2 g3
  subst g1
  have hC1 := hC.step g3 g2
  have hk1 : σ1.blk k = _ := (g3.blk k hk' (by simpa using ktb)).trans hk
  have hm1 : σ1.blk mb = _ := (g3.blk mb hmlt (by simpa using hC.ne)).trans hm
  have hlt := (List.getElem?_eq_some_iff.1 hs).1
  have hl2 := fm_len Sp.len L
  have hsp : splice (L.flatMap Sp.cells) (id.toNat * 2) [.sl .nil 0, .b false] = (L.set id.toNat ⟨.nil, false, []⟩).flatMap Sp.cells := by
    have := fm_splice Sp.len L id.toNat 0 [.sl .nil 0, .b false] s ⟨.nil, false, []⟩ hs (by simp) (by simp [splice, Sp.cells])
    simpa using this
  have hmin : (if id < M.low then id else M.low) = min M.low (id.toNat : Int) := by split <;> omega
  simp (config := { maxSteps := 2000000 }) -implicitDefEqProofs (disch := (first | omega | rfl | assumption | (simp only [rsD]; first | omega | assumption))) only [hk1, hm1, hl2, hsp, hmin, Nat.reduceAdd, Nat.reduceMul, Nat.reduceLT, Int.reduceToNat, Int.reduceAdd, Int.reduceSub, Int.reduceMul, rsU, rsC]
  have hn1 := g3.next
  obtain ⟨q1, q2⟩ := hC1.repl (σ' := (σ1.put k (.cells true T_mem_space ((L.set id.toNat ⟨.nil, false, []⟩).flatMap Sp.cells))).put mb (.cells true el' [.p (some (.n tb, 0)), .sl (.loc (.n k) 0 2) L.length, .i .i64 (min M.low id.toNat), .i .i64 (M.count - 1)]))
    hs (s' := ⟨.nil, false, []⟩) rfl (Nat.le_refl _) (fun b hb h1 h2 => by rw [s_bn h2, s_bn h1]) (by rw [s_bn kmb, s_bs]) ⟨_, by rw [s_bs]⟩ ⟨0, OwnS.nil _ _ _⟩ (by simp [SA.bk])
  refine Ok_some.2 ⟨rfl, _, ⟨tb, _, _, rfl, ?_, q1⟩, ?_, fun b hb => ?_⟩
  · simp only [MemS.close, e, List.map_set, Sp.v]
  · exact ((g3.mono fun b hb => .inl (by simp at hb; subst hb; simp [memF])).put (.inl (by simp [memF, SA.bk])) _).put (.inl (by simp [memF])) _
  · rcases q2 b hb with g | g
    · exact .inl g
    · exact .inr (by omega)
theorem close_no {σ : AH O} {mb : Nat} {F : List Nat} {M : MemS} {id : Int} (h : MemAt σ mb F M) (hn : ¬ isOp M.sp id) : mem_Mem__Close [.p (some (.n mb, 0)), .i .i64 id] σ = some (.i .i64 10, σ) := by
  obtain ⟨tb, sa, L, rfl, e, hC⟩ := h
  rw [e] at hn
  simp (config := { maxSteps := 2000000 }) -implicitDefEqProofs (disch := (first | omega | rfl | assumption | (simp only [rsD]; first | omega | assumption))) only [mem_Mem__Close, mem_Mem__Close_c, at_none hC hn, Nat.reduceAdd, Nat.reduceMul, Nat.reduceLT, Int.reduceToNat, Int.reduceAdd, Int.reduceSub, Int.reduceMul, rsU, rsC]

def MemS.grow (M : MemS) (i : Nat) (w : List Int) (n : Int) : MemS := { M with met := M.met.hold (n - w.length), sp := M.sp.set i (true, w ++ List.replicate (n.toNat - w.length) 0) }
theorem sum_set {l : List Nat} {i x : Nat} {y : Nat} (h : l[i]? = some y) : (l.set i x).sum + y = l.sum + x := by
  induction l generalizing i with
  | nil => simp at h
  | cons z l ih =>
    cases i with
    | zero => simp at h; subst h; simp; omega
    | succ i => simp at h; have := ih h; simp; omega
theorem grow_room {M : MemS} (hM : M.ok) {i : Nat} {w : List Int} (hw : M.sp[i]? = some (true, w)) {n : Int} (h1 : (w.length : Int) ≤ n) (h2 : n ≤ 4194304) : M.met.held + (n - w.length) ≤ 281474976710656 := by
  have := hM.bound
  omega
theorem grow_ok {σ : AH O} {mb : Nat} {F : List Nat} {M : MemS} {id n : Int} {w : List Int} (h : MemAt σ mb F M) (hM : M.ok) (h0 : 0 ≤ id) (hw : M.sp[id.toNat]? = some (true, w)) (h1 : (w.length : Int) ≤ n) (h2 : n ≤ 4194304) :
    Ok (mem_Mem__Grow [.p (some (.n mb, 0)), .i .i64 id, .i .i64 n] σ) fun r => r.1 = .i .i64 0 ∧ ∃ F', MemAt r.2 mb F' (M.grow id.toNat w n) ∧ Chg F σ r.2 ∧ Fp F F' σ := by
  have hroom := grow_room hM hw h1 h2
  obtain ⟨tb, sa, L, rfl, e, hC⟩ := h
  obtain ⟨s, hs, ho, rfl⟩ := getW e hw
  have hlen := hM.len hw
  obtain ⟨k, rfl, hat⟩ := at_some hC h0 hs ho
  obtain ⟨k', e1, hk, hk', g0, how⟩ := hC.at hs
  cases e1
  obtain ⟨el', hm⟩ := hC.m
  have hkn := hC.n1 k (by simp [SA.bk])
  have kmb := hkn.1
  have ktb := hkn.2
  have hmlt := hC.mlt
  simp (config := { maxSteps := 2000000 }) -implicitDefEqProofs (disch := (first | omega | rfl | assumption | (simp only [rsD]; first | omega | assumption))) only [mem_Mem__Grow, mem_Mem__Grow_c, hat, hk, g0, hm, Nat.reduceAdd, Nat.reduceMul, Nat.reduceLT, Int.reduceToNat, Int.reduceAdd, Int.reduceSub, Int.reduceMul, rsU, rsC]
  refine Ok.step (hold_ok hC.met hM.met (by omega) hroom) fun r ⟨g1, g2, g3⟩ => ?_
  obtain ⟨q, σ1⟩ := r
  simp only at g1 g2 g3
  subst g1
  have hC1 := hC.step g3 g2
  have hk1 : σ1.blk k = _ := (g3.blk k hk' (by simpa using ktb)).trans hk
  have hm1 : σ1.blk mb = _ := (g3.blk mb hmlt (by simpa using hC.ne)).trans hm
  have hlt := (List.getElem?_eq_some_iff.1 hs).1
  have hl2 := fm_len Sp.len L
  have hn1 := g3.next
  have how1 : OwnS σ1 T_uint64 1 s.a s.ws.length (u64s s.ws) := how.of hn1 fun b hb => by
    have hb' := mem_spb hs hb
    exact g3.blk b (how.lt b hb) (by simpa using (hC.n2 b hb').2.1)
  -- the new words
  have key : ∀ σ2 : AH O, σ2.next = σ1.next + 1 → (∀ b, b < σ1.next → σ2.blk b = σ1.blk b) → σ2.blk σ1.next = some (.cells true T_uint64 (u64s (s.ws ++ List.replicate (n.toNat - s.ws.length) 0))) →
      Ok (((SA.ref (.loc (.n k) 0 2)).bind fun q => σ2.st q.1 (q.2 + id.toNat * 2) [.sl (.loc (.n σ1.next) 0 1) n.toNat]).bind fun σ3 => some (AV.i .i64 0, σ3)) fun r => r.1 = .i .i64 0 ∧ ∃ F', MemAt r.2 mb F' (M.grow id.toNat s.ws n) ∧ Chg (memF mb tb (.loc (.n k) 0 2) L) σ r.2 ∧ Fp (memF mb tb (.loc (.n k) 0 2) L) F' σ := by
    intro σ2 n2 b2 w2
    have hk2 : σ2.blk k = _ := (b2 k (by omega)).trans hk1
    have hsp : splice (L.flatMap Sp.cells) (id.toNat * 2) [.sl (.loc (.n σ1.next) 0 1) n.toNat] = (L.set id.toNat ⟨.loc (.n σ1.next) 0 1, true, s.ws ++ List.replicate (n.toNat - s.ws.length) 0⟩).flatMap Sp.cells := by
      have := fm_splice Sp.len L id.toNat 0 [.sl (.loc (.n σ1.next) 0 1) n.toNat] s ⟨.loc (.n σ1.next) 0 1, true, s.ws ++ List.replicate (n.toNat - s.ws.length) 0⟩ hs (by simp) (by
        have e9 : n.toNat = s.ws.length + (n.toNat - s.ws.length) := by omega
        simp only [Sp.cells, splice_zz, splice_z, ho, List.length_append, List.length_replicate]; rw [← e9])
      simpa using this
    simp (config := { maxSteps := 2000000 }) -implicitDefEqProofs (disch := (first | omega | rfl | assumption | (simp only [rsD]; first | omega | assumption))) only [hk2, hl2, hsp, Nat.reduceAdd, Nat.reduceMul, Nat.reduceLT, Int.reduceToNat, Int.reduceAdd, Int.reduceSub, Int.reduceMul, rsU, rsC]
    obtain ⟨q1, q2⟩ := hC1.repl (σ' := σ2.put k (.cells true T_mem_space ((L.set id.toNat ⟨.loc (.n σ1.next) 0 1, true, s.ws ++ List.replicate (n.toNat - s.ws.length) 0⟩).flatMap Sp.cells)))
      hs (s' := ⟨.loc (.n σ1.next) 0 1, true, s.ws ++ List.replicate (n.toNat - s.ws.length) 0⟩) rfl (by simp only [put_next]; omega) (fun b hb h1 h2 => by
        rw [s_bn h1]; exact b2 b (hC1.flt b hb)) s_bs (by rw [s_bn (fun e => kmb e.symm), b2 mb (by omega)]; exact ⟨el', hm1⟩)
      ⟨n.toNat, OwnS.new (by simp [u64s_len]; omega) (by rw [s_bn (by omega)]; exact w2) (by simp only [put_next]; omega)⟩ (by simp [SA.bk])
    refine Ok_some.2 ⟨rfl, _, ⟨tb, _, _, rfl, ?_, q1⟩, ?_, fun b hb => ?_⟩
    · simp only [MemS.grow, e, List.map_set, Sp.v]
    · refine Chg.put ?_ (.inl (by simp [memF, SA.bk])) _
      exact ⟨by omega, fun b hb hn => by rw [b2 b (by omega)]; exact g3.blk b hb fun hm => hn (by simp at hm; subst hm; simp [memF])⟩
    · rcases q2 b hb with g | g
      · exact .inl g
      · exact .inr (by omega)
  have hmn : min s.ws.length n.toNat = s.ws.length := by omega
  by_cases hz : s.ws.length = 0
  · have h00 : s.ws = [] := List.eq_nil_of_length_eq_zero hz
    have z : Nat.beq (min s.ws.length n.toNat) 0 = true := by rw [hmn, hz]; rfl
    simp (config := { maxSteps := 2000000 }) -implicitDefEqProofs (disch := (first | omega | rfl | assumption | (simp only [rsD]; first | omega | assumption))) only [hk1, g0, z, u64s_rep, Nat.reduceAdd, Nat.reduceMul, Nat.reduceLT, Int.reduceToNat, Int.reduceAdd, Int.reduceSub, Int.reduceMul, rsU, rsC]
    have := key ((σ1.bump 1).put σ1.next (.cells true T_uint64 (u64s (List.replicate n.toNat 0)))) (by simp) (fun b hb => by rw [s_bn (by omega)]; rfl) (by rw [s_bs, h00]; simp)
    simp (config := { maxSteps := 2000000 }) -implicitDefEqProofs (disch := (first | omega | rfl | assumption | (simp only [rsD]; first | omega | assumption))) only [hk1, Nat.reduceAdd, Nat.reduceMul, Nat.reduceLT, Int.reduceToNat, Int.reduceAdd, Int.reduceSub, Int.reduceMul, rsU, rsC] at this
    exact this
  · have z : Nat.beq s.ws.length 0 = false := s_n1 hz
    have hr := (how1.of (σ' := (σ1.bump 1).put σ1.next (.cells true T_uint64 (u64s (List.replicate n.toNat 0)))) (by simp) fun b hb => by
      have := how1.lt b hb
      rw [s_bn (by omega)]; rfl).rd.rdSl
    have hp : splice (u64s (List.replicate n.toNat 0)) 0 (u64s s.ws) = u64s (s.ws ++ List.replicate (n.toNat - s.ws.length) 0) := by
      rw [splice_u64s]; simp [patched]
    simp (config := { maxSteps := 2000000 }) -implicitDefEqProofs (disch := (first | omega | rfl | assumption | (simp only [rsD]; first | omega | assumption))) only [hk1, g0, hmn, z, u64s_rep, hr, u64s_len, List.length_replicate, hp, Nat.reduceAdd, Nat.reduceMul, Nat.reduceLT, Int.reduceToNat, Int.reduceAdd, Int.reduceSub, Int.reduceMul, rsU, rsC]
    have := key ((σ1.bump 1).put σ1.next (.cells true T_uint64 (u64s (s.ws ++ List.replicate (n.toNat - s.ws.length) 0)))) (by simp) (fun b hb => by rw [s_bn (by omega)]; rfl) s_bs
    simp (config := { maxSteps := 2000000 }) -implicitDefEqProofs (disch := (first | omega | rfl | assumption | (simp only [rsD]; first | omega | assumption))) only [hk1, Nat.reduceAdd, Nat.reduceMul, Nat.reduceLT, Int.reduceToNat, Int.reduceAdd, Int.reduceSub, Int.reduceMul, rsU, rsC] at this
    exact this
theorem grow_no {σ : AH O} {mb : Nat} {F : List Nat} {M : MemS} {id n : Int} (h : MemAt σ mb F M) (hn : ¬ isOp M.sp id) : mem_Mem__Grow [.p (some (.n mb, 0)), .i .i64 id, .i .i64 n] σ = some (.i .i64 10, σ) := by
  obtain ⟨tb, sa, L, rfl, e, hC⟩ := h
  rw [e] at hn
  simp (config := { maxSteps := 2000000 }) -implicitDefEqProofs (disch := (first | omega | rfl | assumption | (simp only [rsD]; first | omega | assumption))) only [mem_Mem__Grow, mem_Mem__Grow_c, at_none hC hn, Nat.reduceAdd, Nat.reduceMul, Nat.reduceLT, Int.reduceToNat, Int.reduceAdd, Int.reduceSub, Int.reduceMul, rsU, rsC]
theorem grow_bad {σ : AH O} {mb : Nat} {F : List Nat} {M : MemS} {id n : Int} {w : List Int} (h : MemAt σ mb F M) (h0 : 0 ≤ id) (hw : M.sp[id.toNat]? = some (true, w)) (h1 : n < w.length ∨ n > 4194304) :
    mem_Mem__Grow [.p (some (.n mb, 0)), .i .i64 id, .i .i64 n] σ = some (.i .i64 (if n < w.length then 1 else 7), σ) := by
  obtain ⟨tb, sa, L, rfl, e, hC⟩ := h
  obtain ⟨s, hs, ho, rfl⟩ := getW e hw
  obtain ⟨k, rfl, hat⟩ := at_some hC h0 hs ho
  obtain ⟨k', e1, hk, hk', g0, how⟩ := hC.at hs
  cases e1
  by_cases hc : n < s.ws.length
  · simp (config := { maxSteps := 2000000 }) -implicitDefEqProofs (disch := (first | omega | rfl | assumption | (simp only [rsD]; first | omega | assumption))) only [mem_Mem__Grow, mem_Mem__Grow_c, hat, hk, g0, Nat.reduceAdd, Nat.reduceMul, Nat.reduceLT, Int.reduceToNat, Int.reduceAdd, Int.reduceSub, Int.reduceMul, rsU, rsC]
    rw [if_pos hc]
  · simp (config := { maxSteps := 2000000 }) -implicitDefEqProofs (disch := (first | omega | rfl | assumption | (simp only [rsD]; first | omega | assumption))) only [mem_Mem__Grow, mem_Mem__Grow_c, hat, hk, g0, Nat.reduceAdd, Nat.reduceMul, Nat.reduceLT, Int.reduceToNat, Int.reduceAdd, Int.reduceSub, Int.reduceMul, rsU, rsC]
    rw [if_neg hc]
end Go.Abs.Try
