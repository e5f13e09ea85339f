/-
  Layer 8: spaces are opened, closed, grown, looked at. No conditions.
-/
import Derived.Test.YtjfblnpolgoojaaM8
set_option linter.unusedVariables false
set_option linter.unusedSimpArgs false
set_option linter.constructorNameAsVariable false
set_option linter.unusedSimpArgs false
namespace Go.Abs.Try
open Go Go.Abs
variable {O : Type}

/-- a copy of some words -/
theorem clone_ok {σ : AH O} {a : SA} {n : Nat} {cs : List AV} (h : Rd σ 1 a n cs) (hw : ∀ b ∈ SA.bk a, b < σ.next) (hn : n ≤ 4194304) :
    Ok (slices_Clone___uint64_uint64_ [.sl a n] σ) fun r => ∃ a', r.1 = .sl a' n ∧ OwnS r.2 T_uint64 1 a' n cs ∧ Ext σ r.2 ∧ ∀ b ∈ SA.bk a', σ.next ≤ b := by
  cases hnil : SA.isNil a with
  | true =>
    have ha : a = .nil := by cases a <;> first | rfl | (simp [SA.isNil] at hnil)
    subst ha
    obtain ⟨rfl, rfl⟩ := h.wh
    simp (config := { maxSteps := 2000000 }) -implicitDefEqProofs (disch := (first | omega | rfl | assumption | (simp only [rsD]; first | omega | assumption))) only [slices_Clone___uint64_uint64_, slices_Clone___uint64_uint64__c, hnil, Nat.reduceAdd, Nat.reduceMul, Nat.reduceLT, Int.reduceToNat, Int.reduceAdd, Int.reduceSub, Int.reduceMul, rsU, rsC]
    exact Ok_some.2 ⟨_, rfl, OwnS.nil _ _ _, Ext.refl _, by simp [SA.bk]⟩
  | false =>
    have e0 : Ext σ ((σ.bump 2).put σ.next (.cells true T_uint64 [])) := (ext_of (by simp only [put_next, bump_next, kill_next]; omega) (fun b hb => by simp -implicitDefEqProofs (disch := (first | omega | rfl | assumption | (simp only [rsD]; first | omega | assumption))) only [s_bn, s_kn, bump_blk, s_ext]))
    have hr := (h.of (σ' := (σ.bump 2).put σ.next (.cells true T_uint64 [])) fun b hb => e0.blk b (hw b hb)).rdSl
    have rm : Nat.ble ((0 + n) * 9) 35184372088832 = true := s_room (by omega)
    simp (config := { maxSteps := 2000000 }) -implicitDefEqProofs (disch := (first | omega | rfl | assumption | (simp only [rsD]; first | omega | assumption))) only [slices_Clone___uint64_uint64_, slices_Clone___uint64_uint64__c, hnil, hr, rm, Nat.reduceAdd, Nat.reduceMul, Nat.reduceLT, Int.reduceToNat, Int.reduceAdd, Int.reduceSub, Int.reduceMul, rsU, rsC]
    refine Ok.step (app_ok (el := T_uint64) (es := 1) (n := 0) (cs := []) (OwnS.new (by simp) s_bs (by simp)) (by simp [SA.bk]) (by simp) h.len) fun r ⟨a', g1, g2, g3, g4, g5⟩ => ?_
    obtain ⟨q, σ1⟩ := r
    simp only at g1 g2 g3 g4 g5
    subst g1
    simp (config := { maxSteps := 2000000 }) -implicitDefEqProofs (disch := (first | omega | rfl | assumption | (simp only [rsD]; first | omega | assumption))) only [Nat.reduceAdd, Nat.reduceMul, Nat.reduceLT, Int.reduceToNat, Int.reduceAdd, Int.reduceSub, Int.reduceMul, rsU, rsC]
    rw [Nat.zero_add] at g2
    refine Ok_some.2 ⟨a', rfl, by simpa using g2, ⟨by show σ.next ≤ σ1.next; rw [g3]; simp, fun b hb => ?_⟩, fun b hb => by rw [g5 b hb]; omega⟩
    show σ1.blk b = _
    rw [g4 b (by omega) (by simp only [SA.bk, List.mem_singleton]; omega)]
    exact e0.blk b hb
theorem u64s_flat (l : List Int) : (u64s l).all AV.flat = true := by simp [u64s, AV.flat]
theorem look_ok {σ : AH O} {mb : Nat} {F : List Nat} {M : MemS} {id : Int} {w : List Int} (h : MemAt σ mb F M) (hM : M.ok) (h0 : 0 ≤ id) (hw : M.sp[id.toNat]? = some (true, w)) :
    Ok (mem_Mem__Look [.p (some (.n mb, 0)), .i .i64 id] σ) fun r => (∃ a', r.1 = .tup [.sl a' w.length, .i .i64 0] ∧ Imm 1 a' w.length (u64s w)) ∧ Ext σ r.2 := by
  obtain ⟨tb, sa, L, rfl, e, hC⟩ := h
  obtain ⟨s, hs, ho, rfl⟩ := getW e hw
  obtain ⟨k, rfl, hat⟩ := at_some hC h0 hs ho
  obtain ⟨k', e1, hk, _, g0, how⟩ := hC.at hs
  cases e1
  unfold mem_Mem__Look
  refine frz_ok (Q := fun v => ∃ a', v = .tup [.sl a' s.ws.length, .i .i64 0] ∧ Imm 1 a' s.ws.length (u64s s.ws)) ?_
  simp (config := { maxSteps := 2000000 }) -implicitDefEqProofs (disch := (first | omega | rfl | assumption | (simp only [rsD]; first | omega | assumption))) only [mem_Mem__Look_c, hat, hk, g0, Nat.reduceAdd, Nat.reduceMul, Nat.reduceLT, Int.reduceToNat, Int.reduceAdd, Int.reduceSub, Int.reduceMul, rsU, rsC]
  refine Ok.step (clone_ok how.rd how.lt (hM.len hw)) fun r ⟨a', g1, g2, g3, g4⟩ => ?_
  obtain ⟨q, σ1⟩ := r
  simp only at g1 g2 g3 g4
  subst g1
  simp (config := { maxSteps := 2000000 }) -implicitDefEqProofs (disch := (first | omega | rfl | assumption | (simp only [rsD]; first | omega | assumption))) only [Nat.reduceAdd, Nat.reduceMul, Nat.reduceLT, Int.reduceToNat, Int.reduceAdd, Int.reduceSub, Int.reduceMul, rsU, rsC]
  obtain ⟨a2, f1, f2⟩ := FZ.sl (d := 5) (H := σ1.blk) (L := []) g2 (fun _ _ => rfl) (FZL.flat (u64s_flat _)) rfl (by simp)
  refine Ok_some.2 ⟨_, _, FZ.tup (FZL.cons f1 (FZL.flat (vs := [.i .i64 0]) rfl) (by simp)), ?_, g3, a2, rfl, f2⟩
  intro b hb
  simp only [List.append_nil] at hb
  exact g4 b hb
theorem look_no {σ : AH O} {mb : Nat} {F : List Nat} {M : MemS} {id : Int} (h : MemAt σ mb F M) (hn : ¬ isOp M.sp id) : Ok (mem_Mem__Look [.p (some (.n mb, 0)), .i .i64 id] σ) fun r => r.1 = .tup [.sl .nil 0, .i .i64 10] ∧ Ext σ r.2 := by
  obtain ⟨tb, sa, L, rfl, e, hC⟩ := h
  rw [e] at hn
  unfold mem_Mem__Look
  refine frz_ok (Q := fun v => v = .tup [.sl .nil 0, .i .i64 10]) ?_
  simp (config := { maxSteps := 2000000 }) -implicitDefEqProofs (disch := (first | omega | rfl | assumption | (simp only [rsD]; first | omega | assumption))) only [mem_Mem__Look_c, at_none hC hn, Nat.reduceAdd, Nat.reduceMul, Nat.reduceLT, Int.reduceToNat, Int.reduceAdd, Int.reduceSub, Int.reduceMul, rsU, rsC]
  exact Ok_some.2 ⟨_, [], FZ.tup (FZL.flat (vs := [.sl .nil 0, .i .i64 10]) rfl), by simp, Ext.refl _, rfl⟩
theorem read_no {σ : AH O} {mb : Nat} {F : List Nat} {M : MemS} {id at_ : Int} (h : MemAt σ mb F M) (hn : ¬ isOp M.sp id) : mem_Mem__Read [.p (some (.n mb, 0)), .i .i64 id, .i .i64 at_] σ = some (.tup [.i .u64 0, .i .i64 10], σ) := by
  obtain ⟨tb, sa, L, rfl, e, hC⟩ := h
  rw [e] at hn
  simp (config := { maxSteps := 2000000 }) -implicitDefEqProofs (disch := (first | omega | rfl | assumption | (simp only [rsD]; first | omega | assumption))) only [mem_Mem__Read, mem_Mem__Read_c, within_no hC hn, Nat.reduceAdd, Nat.reduceMul, Nat.reduceLT, Int.reduceToNat, Int.reduceAdd, Int.reduceSub, Int.reduceMul, rsU, rsC]
theorem read_out {σ : AH O} {mb : Nat} {F : List Nat} {M : MemS} {id at_ : Int} {w : List Int} (h : MemAt σ mb F M) (hM : M.ok) (h0 : 0 ≤ id) (hw : M.sp[id.toNat]? = some (true, w)) (ha : -9223372036854775808 ≤ at_ ∧ at_ ≤ 9223372036854775807) (h1 : at_ < 0 ∨ at_ ≥ w.length) :
    mem_Mem__Read [.p (some (.n mb, 0)), .i .i64 id, .i .i64 at_] σ = some (.tup [.i .u64 0, .i .i64 11], σ) := by
  obtain ⟨tb, sa, L, rfl, e, hC⟩ := h
  obtain ⟨s, hs, ho, rfl⟩ := getW e hw
  simp (config := { maxSteps := 2000000 }) -implicitDefEqProofs (disch := (first | omega | rfl | assumption | (simp only [rsD]; first | omega | assumption))) only [mem_Mem__Read, mem_Mem__Read_c, within_out (n := 1) hC h0 hs ho (hM.len hw) ha (by omega), Nat.reduceAdd, Nat.reduceMul, Nat.reduceLT, Int.reduceToNat, Int.reduceAdd, Int.reduceSub, Int.reduceMul, rsU, rsC]
theorem write_no {σ : AH O} {mb : Nat} {F : List Nat} {M : MemS} {id at_ x : Int} (h : MemAt σ mb F M) (hn : ¬ isOp M.sp id) : mem_Mem__Write [.p (some (.n mb, 0)), .i .i64 id, .i .i64 at_, .i .u64 x] σ = some (.i .i64 10, σ) := by
  obtain ⟨tb, sa, L, rfl, e, hC⟩ := h
  rw [e] at hn
  simp (config := { maxSteps := 2000000 }) -implicitDefEqProofs (disch := (first | omega | rfl | assumption | (simp only [rsD]; first | omega | assumption))) only [mem_Mem__Write, mem_Mem__Write_c, within_no hC hn, Nat.reduceAdd, Nat.reduceMul, Nat.reduceLT, Int.reduceToNat, Int.reduceAdd, Int.reduceSub, Int.reduceMul, rsU, rsC]
theorem write_out {σ : AH O} {mb : Nat} {F : List Nat} {M : MemS} {id at_ x : Int} {w : List Int} (h : MemAt σ mb F M) (hM : M.ok) (h0 : 0 ≤ id) (hw : M.sp[id.toNat]? = some (true, w)) (ha : -9223372036854775808 ≤ at_ ∧ at_ ≤ 9223372036854775807) (h1 : at_ < 0 ∨ at_ ≥ w.length) :
    mem_Mem__Write [.p (some (.n mb, 0)), .i .i64 id, .i .i64 at_, .i .u64 x] σ = some (.i .i64 11, σ) := by
  obtain ⟨tb, sa, L, rfl, e, hC⟩ := h
  obtain ⟨s, hs, ho, rfl⟩ := getW e hw
  simp (config := { maxSteps := 2000000 }) -implicitDefEqProofs (disch := (first | omega | rfl | assumption | (simp only [rsD]; first | omega | assumption))) only [mem_Mem__Write, mem_Mem__Write_c, within_out (n := 1) hC h0 hs ho (hM.len hw) ha (by omega), Nat.reduceAdd, Nat.reduceMul, Nat.reduceLT, Int.reduceToNat, Int.reduceAdd, Int.reduceSub, Int.reduceMul, rsU, rsC]
theorem zero_no {σ : AH O} {mb : Nat} {F : List Nat} {M : MemS} {id at_ n : Int} (h : MemAt σ mb F M) (hn : ¬ isOp M.sp id) : mem_Mem__Zero [.p (some (.n mb, 0)), .i .i64 id, .i .i64 at_, .i .i64 n] σ = some (.i .i64 10, σ) := by
  obtain ⟨tb, sa, L, rfl, e, hC⟩ := h
  rw [e] at hn
  simp (config := { maxSteps := 2000000 }) -implicitDefEqProofs (disch := (first | omega | rfl | assumption | (simp only [rsD]; first | omega | assumption))) only [mem_Mem__Zero, mem_Mem__Zero_c, within_no hC hn, Nat.reduceAdd, Nat.reduceMul, Nat.reduceLT, Int.reduceToNat, Int.reduceAdd, Int.reduceSub, Int.reduceMul, rsU, rsC]
theorem zero_out {σ : AH O} {mb : Nat} {F : List Nat} {M : MemS} {id at_ n : Int} {w : List Int} (h : MemAt σ mb F M) (hM : M.ok) (h0 : 0 ≤ id) (hw : M.sp[id.toNat]? = some (true, w)) (ha : -9223372036854775808 ≤ at_ ∧ at_ ≤ 9223372036854775807) (h1 : n < 0 ∨ at_ < 0 ∨ at_ > (w.length : Int) ∨ n > (w.length : Int) - at_) :
    mem_Mem__Zero [.p (some (.n mb, 0)), .i .i64 id, .i .i64 at_, .i .i64 n] σ = some (.i .i64 11, σ) := by
  obtain ⟨tb, sa, L, rfl, e, hC⟩ := h
  obtain ⟨s, hs, ho, rfl⟩ := getW e hw
  simp (config := { maxSteps := 2000000 }) -implicitDefEqProofs (disch := (first | omega | rfl | assumption | (simp only [rsD]; first | omega | assumption))) only [mem_Mem__Zero, mem_Mem__Zero_c, within_out hC h0 hs ho (hM.len hw) ha h1, Nat.reduceAdd, Nat.reduceMul, Nat.reduceLT, Int.reduceToNat, Int.reduceAdd, Int.reduceSub, Int.reduceMul, rsU, rsC]

/-- one space is another now, its words new -/
theorem MemC.repl {σ σ' : AH O} {mb tb : Nat} {sa : SA} {L : List Sp} {met : Met} {low count low' count' : Int} (h : MemC σ mb tb sa L met low count) {i : Nat} {s s' : Sp} (hs : L[i]? = some s) {k : Nat} (hk : sa = .loc (.n k) 0 2) (hn : σ.next ≤ σ'.next)
    (hb : ∀ b ∈ memF mb tb sa L, b ≠ k → b ≠ mb → σ'.blk b = σ.blk b) (hsp : σ'.blk k = some (.cells true T_mem_space ((L.set i s').flatMap Sp.cells)))
    (hm : ∃ el, σ'.blk mb = some (.cells true el [.p (some (.n tb, 0)), .sl sa L.length, .i .i64 low', .i .i64 count'])) (how : ∃ n, OwnS σ' T_uint64 1 s'.a n (u64s s'.ws)) (hf : ∀ b ∈ SA.bk s'.a, σ.next ≤ b) :
    MemC σ' mb tb sa (L.set i s') met low' count' ∧ Fp (memF mb tb sa L) (memF mb tb sa (L.set i s')) σ := by
  have hflt := h.flt
  have hs' : (L.map Sp.sl)[i]? = some s.sl := by rw [List.getElem?_map, hs]; rfl
  have hmap : (L.set i s').map Sp.sl = (L.map Sp.sl).set i s'.sl := by rw [List.map_set]
  have kb : k ∈ SA.bk sa := by rw [hk]; simp [SA.bk]
  have hkm := h.n1 k kb
  have hle := h.slc.len
  refine ⟨⟨by rw [List.length_set]; exact hm, Nat.lt_of_lt_of_le h.mlt hn, h.met.of hn (hb tb (by simp [memF]) (fun e => hkm.2 e.symm) (fun e => h.ne e.symm)), ?_, ?_, h.ne, h.n1, ?_⟩, ?_⟩
  · rw [hk]
    exact OwnS.new (by rw [fm_len Sp.len]) hsp (Nat.lt_of_lt_of_le (hflt k (by simp [memF, kb])) hn)
  · rw [hmap]
    refine h.sls.set hs' hn (fun b hb' _ => ?_) how fun b hb' => .inr fun hm' => ?_
    · have := h.n2 b hb'
      exact hb b (by simp [memF, hb']) (fun e => this.2.2 (e ▸ kb)) this.1
    · have := hf b hb'
      have := hflt b (by simp [memF, hm']); omega
  · intro b hb'
    rw [hmap] at hb'
    rcases sbk_set hb' with g | g
    · have := hf b g
      exact ⟨fun e => by have := h.mlt; omega, fun e => by have := h.met.lt; omega, fun hm' => by have := h.slc.lt b hm'; omega⟩
    · exact h.n2 b g
  · intro b hb'
    simp only [memF, List.mem_cons, List.mem_append, hmap] at hb' ⊢
    rcases hb' with g | g | g | g
    · exact .inl (.inl g)
    · exact .inl (.inr (.inl g))
    · exact .inl (.inr (.inr (.inl g)))
    · rcases sbk_set g with g | g
      · exact .inr (hf b g)
      · exact .inl (.inr (.inr (.inr g)))
end Go.Abs.Try
