/-
  Layer 8: spaces are opened, closed, grown, looked at. No conditions.
-/
import Derived.Test.YtgmffmgbaelohaaM8
set_option linter.unusedVariables false
set_option linter.unusedSimpArgs false
set_option linter.constructorNameAsVariable false
set_option linter.unusedSimpArgs false
namespace Go.Abs.Try
open Go Go.Abs
variable {O : Type}

theorem read_no {σ : AH O} {mb : Nat} {F : List Nat} {M : MemS} {id at_ : Int} (h : MemAt σ mb F M) (hn : ¬ isOp M.sp id) : mem_Mem__Read [.p (some (.n mb, 0)), .i .i64 id, .i .i64 at_] σ = some (.tup [.i .u64 0, .i .i64 10], σ) := by
  obtain ⟨tb, sa, L, rfl, e, hC⟩ := h
  rw [e] at hn
  simp (config := { maxSteps := 2000000 }) -implicitDefEqProofs (disch := (first | omega | rfl | assumption | (simp only [rsD]; first | omega | assumption))) only [mem_Mem__Read, mem_Mem__Read_c, within_no hC hn, Nat.reduceAdd, Nat.reduceMul, Nat.reduceLT, Int.reduceToNat, Int.reduceAdd, Int.reduceSub, Int.reduceMul, rsU, rsC]
theorem read_out {σ : AH O} {mb : Nat} {F : List Nat} {M : MemS} {id at_ : Int} {w : List Int} (h : MemAt σ mb F M) (hM : M.ok) (h0 : 0 ≤ id) (hw : M.sp[id.toNat]? = some (true, w)) (ha : -9223372036854775808 ≤ at_ ∧ at_ ≤ 9223372036854775807) (h1 : at_ < 0 ∨ at_ ≥ w.length) :
    mem_Mem__Read [.p (some (.n mb, 0)), .i .i64 id, .i .i64 at_] σ = some (.tup [.i .u64 0, .i .i64 11], σ) := by
  obtain ⟨tb, sa, L, rfl, e, hC⟩ := h
  obtain ⟨s, hs, ho, rfl⟩ := getW e hw
  simp (config := { maxSteps := 2000000 }) -implicitDefEqProofs (disch := (first | omega | rfl | assumption | (simp only [rsD]; first | omega | assumption))) only [mem_Mem__Read, mem_Mem__Read_c, within_out (n := 1) hC h0 hs ho (hM.len hw) ha (by omega), Nat.reduceAdd, Nat.reduceMul, Nat.reduceLT, Int.reduceToNat, Int.reduceAdd, Int.reduceSub, Int.reduceMul, rsU, rsC]
theorem write_no {σ : AH O} {mb : Nat} {F : List Nat} {M : MemS} {id at_ x : Int} (h : MemAt σ mb F M) (hn : ¬ isOp M.sp id) : mem_Mem__Write [.p (some (.n mb, 0)), .i .i64 id, .i .i64 at_, .i .u64 x] σ = some (.i .i64 10, σ) := by
  obtain ⟨tb, sa, L, rfl, e, hC⟩ := h
  rw [e] at hn
  simp (config := { maxSteps := 2000000 }) -implicitDefEqProofs (disch := (first | omega | rfl | assumption | (simp only [rsD]; first | omega | assumption))) only [mem_Mem__Write, mem_Mem__Write_c, within_no hC hn, Nat.reduceAdd, Nat.reduceMul, Nat.reduceLT, Int.reduceToNat, Int.reduceAdd, Int.reduceSub, Int.reduceMul, rsU, rsC]
theorem write_out {σ : AH O} {mb : Nat} {F : List Nat} {M : MemS} {id at_ x : Int} {w : List Int} (h : MemAt σ mb F M) (hM : M.ok) (h0 : 0 ≤ id) (hw : M.sp[id.toNat]? = some (true, w)) (ha : -9223372036854775808 ≤ at_ ∧ at_ ≤ 9223372036854775807) (h1 : at_ < 0 ∨ at_ ≥ w.length) :
    mem_Mem__Write [.p (some (.n mb, 0)), .i .i64 id, .i .i64 at_, .i .u64 x] σ = some (.i .i64 11, σ) := by
  obtain ⟨tb, sa, L, rfl, e, hC⟩ := h
  obtain ⟨s, hs, ho, rfl⟩ := getW e hw
  simp (config := { maxSteps := 2000000 }) -implicitDefEqProofs (disch := (first | omega | rfl | assumption | (simp only [rsD]; first | omega | assumption))) only [mem_Mem__Write, mem_Mem__Write_c, within_out (n := 1) hC h0 hs ho (hM.len hw) ha (by omega), Nat.reduceAdd, Nat.reduceMul, Nat.reduceLT, Int.reduceToNat, Int.reduceAdd, Int.reduceSub, Int.reduceMul, rsU, rsC]
theorem zero_no {σ : AH O} {mb : Nat} {F : List Nat} {M : MemS} {id at_ n : Int} (h : MemAt σ mb F M) (hn : ¬ isOp M.sp id) : mem_Mem__Zero [.p (some (.n mb, 0)), .i .i64 id, .i .i64 at_, .i .i64 n] σ = some (.i .i64 10, σ) := by
  obtain ⟨tb, sa, L, rfl, e, hC⟩ := h
  rw [e] at hn
  simp (config := { maxSteps := 2000000 }) -implicitDefEqProofs (disch := (first | omega | rfl | assumption | (simp only [rsD]; first | omega | assumption))) only [mem_Mem__Zero, mem_Mem__Zero_c, within_no hC hn, Nat.reduceAdd, Nat.reduceMul, Nat.reduceLT, Int.reduceToNat, Int.reduceAdd, Int.reduceSub, Int.reduceMul, rsU, rsC]
theorem zero_out {σ : AH O} {mb : Nat} {F : List Nat} {M : MemS} {id at_ n : Int} {w : List Int} (h : MemAt σ mb F M) (hM : M.ok) (h0 : 0 ≤ id) (hw : M.sp[id.toNat]? = some (true, w)) (ha : -9223372036854775808 ≤ at_ ∧ at_ ≤ 9223372036854775807) (h1 : n < 0 ∨ at_ < 0 ∨ at_ > (w.length : Int) ∨ n > (w.length : Int) - at_) :
    mem_Mem__Zero [.p (some (.n mb, 0)), .i .i64 id, .i .i64 at_, .i .i64 n] σ = some (.i .i64 11, σ) := by
  obtain ⟨tb, sa, L, rfl, e, hC⟩ := h
  obtain ⟨s, hs, ho, rfl⟩ := getW e hw
  simp (config := { maxSteps := 2000000 }) -implicitDefEqProofs (disch := (first | omega | rfl | assumption | (simp only [rsD]; first | omega | assumption))) only [mem_Mem__Zero, mem_Mem__Zero_c, within_out hC h0 hs ho (hM.len hw) ha h1, Nat.reduceAdd, Nat.reduceMul, Nat.reduceLT, Int.reduceToNat, Int.reduceAdd, Int.reduceSub, Int.reduceMul, rsU, rsC]

/-- one space is another now, its words new -/
theorem MemC.repl {σ σ' : AH O} {mb tb : Nat} {sa : SA} {L : List Sp} {met : Met} {low count low' count' : Int} (h : MemC σ mb tb sa L met low count) {i : Nat} {s s' : Sp} (hs : L[i]? = some s) {k : Nat} (hk : sa = .loc (.n k) 0 2) (hn : σ.next ≤ σ'.next)
    (hb : ∀ b ∈ memF mb tb sa L, b ≠ k → b ≠ mb → σ'.blk b = σ.blk b) (hsp : σ'.blk k = some (.cells true T_mem_space ((L.set i s').flatMap Sp.cells)))
    (hm : ∃ el, σ'.blk mb = some (.cells true el [.p (some (.n tb, 0)), .sl sa L.length, .i .i64 low', .i .i64 count'])) (how : ∃ n, OwnS σ' T_uint64 1 s'.a n (u64s s'.ws)) (hf : ∀ b ∈ SA.bk s'.a, σ.next ≤ b) :
    MemC σ' mb tb sa (L.set i s') met low' count' ∧ Fp (memF mb tb sa L) (memF mb tb sa (L.set i s')) σ := by
  have hflt := h.flt
  have hs' : (L.map Sp.sl)[i]? = some s.sl := by rw [List.getElem?_map, hs]; rfl
  have hmap : (L.set i s').map Sp.sl = (L.map Sp.sl).set i s'.sl := by rw [List.map_set]
  have kb : k ∈ SA.bk sa := by rw [hk]; simp [SA.bk]
  have hkm := h.n1 k kb
  have hle := h.slc.len
  refine ⟨⟨by rw [List.length_set]; exact hm, Nat.lt_of_lt_of_le h.mlt hn, h.met.of hn (hb tb (by simp [memF]) (fun e => hkm.2 e.symm) (fun e => h.ne e.symm)), ?_, ?_, h.ne, h.n1, ?_⟩, ?_⟩
  · rw [hk]
    exact OwnS.new (by rw [fm_len Sp.len]) hsp (Nat.lt_of_lt_of_le (hflt k (by simp [memF, kb])) hn)
  · rw [hmap]
    refine h.sls.set hs' hn (fun b hb' _ => ?_) how fun b hb' => .inr fun hm' => ?_
    · have := h.n2 b hb'
      exact hb b (by simp [memF, hb']) (fun e => this.2.2 (e ▸ kb)) this.1
    · have := hf b hb'
      have := hflt b (by simp [memF, hm']); omega
  · intro b hb'
    rw [hmap] at hb'
    rcases sbk_set hb' with g | g
    · have := hf b g
      exact ⟨fun e => by have := h.mlt; omega, fun e => by have := h.met.lt; omega, fun hm' => by have := h.slc.lt b hm'; omega⟩
    · exact h.n2 b g
  · intro b hb'
    simp only [memF, List.mem_cons, List.mem_append, hmap] at hb' ⊢
    rcases hb' with g | g | g | g
    · exact .inl (.inl g)
    · exact .inl (.inr (.inl g))
    · exact .inl (.inr (.inr (.inl g)))
    · rcases sbk_set g with g | g
      · exact .inr (hf b g)
      · exact .inl (.inr (.inr (.inr g)))
end Go.Abs.Try
