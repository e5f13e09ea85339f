/-
  Layer 8: a space is opened. No conditions.
-/
import Derived.Test.YtgmffmgbaelohaaM8c
set_option linter.unusedVariables false
set_option linter.unusedSimpArgs false
set_option linter.constructorNameAsVariable false
set_option linter.unusedSimpArgs false
namespace Go.Abs.Try
open Go Go.Abs
variable {O : Type}

/-- the first number that is free -/
structure Free (l : List (Bool × List Int)) (i : Nat) : Prop where
  le : i ≤ l.length
  below : ∀ j, j < i → ∃ w, l[j]? = some (true, w)
  here : ∀ s, l[i]? = some s → s.1 = false
theorem Free.uniq {l : List (Bool × List Int)} {i j : Nat} (h : Free l i) (k : Free l j) : i = j := by
  rcases Nat.lt_trichotomy i j with hh | hh | hh
  · obtain ⟨w, hw⟩ := k.below i hh
    have := h.here _ hw; cases this
  · exact hh
  · obtain ⟨w, hw⟩ := h.below j hh
    have := k.here _ hw; cases this
def putAt (l : List (Bool × List Int)) (i : Nat) (x : Bool × List Int) : List (Bool × List Int) := if i < l.length then l.set i x else l ++ [x]
def MemS.opn (M : MemS) (i : Nat) (n : Int) : MemS := ⟨M.met.hold n, putAt M.sp i (true, List.replicate n.toNat 0), i + 1, M.count + 1⟩

theorem open_ok {σ : AH O} {mb : Nat} {F : List Nat} {M : MemS} {n : Int} (h : MemAt σ mb F M) (hM : M.ok) (h1 : 0 ≤ n) (h2 : n ≤ 4194304) (h3 : M.count < 262144) :
    Ok (mem_Mem__Open [.p (some (.n mb, 0)), .i .i64 n] σ) fun r => ∃ i : Nat, Free M.sp i ∧ r.1 = .tup [.i .i64 i, .i .i64 0] ∧ ∃ F', MemAt r.2 mb F' (M.opn i n) ∧ Chg F σ r.2 ∧ Fp F F' σ := by
  have hroom : M.met.held + n ≤ 281474976710656 := by have := hM.bound; omega
  obtain ⟨tb, sa, L, rfl, e, hC⟩ := h
  obtain ⟨el', hm⟩ := hC.m
  have hlow := hM.low
  have hfew := hM.few
  have hlen : M.sp.length = L.length := by rw [e, List.length_map]
  rw [hlen] at hlow hfew
  have hmlt := hC.mlt
  simp (config := { maxSteps := 2000000 }) -implicitDefEqProofs (disch := (first | omega | rfl | assumption | (simp only [rsD]; first | omega | assumption))) only [mem_Mem__Open, mem_Mem__Open_c, hm, Nat.reduceAdd, Nat.reduceMul, Nat.reduceLT, Int.reduceToNat, Int.reduceAdd, Int.reduceSub, Int.reduceMul, rsU, rsC]
  -- the first that is free
  refine Ok.step (Q := fun r => ∃ i : Nat, Free M.sp i ∧ r = ([.i .i64 (i : Int)], σ)) ?_ ?_
  · refine Ok.loop (fun k s => ∃ j : Nat, s = ([.i .i64 (j : Int)], σ) ∧ j ≤ L.length ∧ k = L.length - j ∧ ∀ q, q < j → ∃ w, M.sp[q]? = some (true, w)) ?_ (L.length - M.low.toNat) _ ⟨M.low.toNat, by rw [Int.toNat_of_nonneg hlow.1], by omega, rfl, fun q hq => ?_⟩
    · rintro k s ⟨j, rfl, hj, rfl, hq⟩
      by_cases hjl : j < L.length
      · have hs := List.getElem?_eq_getElem hjl
        obtain ⟨k, rfl, hk, hk', g0, how⟩ := hC.at hs
        have g1 := fm_get' Sp.len (j := 1) (by omega) hs
        simp only [Sp.cells, List.getElem?_cons_succ, List.getElem?_cons_zero] at g1
        simp (config := { maxSteps := 2000000 }) -implicitDefEqProofs (disch := (first | omega | rfl | assumption | (simp only [rsD]; first | omega | assumption))) only [mem_Mem__Open_L1, hm, hk, g1, Nat.reduceAdd, Nat.reduceMul, Nat.reduceLT, Int.reduceToNat, Int.reduceAdd, Int.reduceSub, Int.reduceMul, rsU, rsC]
        cases ho : L[j].op with
        | true =>
          simp (config := { maxSteps := 2000000 }) -implicitDefEqProofs (disch := (first | omega | rfl | assumption | (simp only [rsD]; first | omega | assumption))) only [Nat.reduceAdd, Nat.reduceMul, Nat.reduceLT, Int.reduceToNat, Int.reduceAdd, Int.reduceSub, Int.reduceMul, rsU, rsC]
          exact Ok_some.2 ⟨_, (by omega : L.length - (j + 1) < L.length - j), j + 1, by simp, by omega, rfl, fun q hq' => by
            rcases Nat.lt_or_ge q j with hh | hh
            · exact hq q hh
            · obtain rfl : q = j := by omega
              exact ⟨L[q].ws, by rw [e, List.getElem?_map, hs, Option.map_some, Sp.v, ho]⟩⟩
        | false =>
          simp (config := { maxSteps := 2000000 }) -implicitDefEqProofs (disch := (first | omega | rfl | assumption | (simp only [rsD]; first | omega | assumption))) only [Nat.reduceAdd, Nat.reduceMul, Nat.reduceLT, Int.reduceToNat, Int.reduceAdd, Int.reduceSub, Int.reduceMul, rsU, rsC]
          refine Ok_some.2 ⟨j, ⟨by omega, hq, fun s hs' => ?_⟩, rfl⟩
          rw [e, List.getElem?_map, hs, Option.map_some] at hs'
          cases hs'; exact ho
      · simp (config := { maxSteps := 2000000 }) -implicitDefEqProofs (disch := (first | omega | rfl | assumption | (simp only [rsD]; first | omega | assumption))) only [mem_Mem__Open_L1, hm, Nat.reduceAdd, Nat.reduceMul, Nat.reduceLT, Int.reduceToNat, Int.reduceAdd, Int.reduceSub, Int.reduceMul, rsU, rsC]
        refine Ok_some.2 ⟨j, ⟨by omega, hq, fun s hs' => ?_⟩, rfl⟩
        have := (List.getElem?_eq_some_iff.1 hs').1
        omega
    · have hql : q < M.sp.length := by omega
      have hs := List.getElem?_eq_getElem hql
      have := hM.below q (by omega) _ hs
      exact ⟨M.sp[q].2, by rw [hs]; congr 1; exact Prod.ext this rfl⟩
  rintro r ⟨i, hfree, rfl⟩
  have hil := hfree.le
  rw [hlen] at hil
  simp (config := { maxSteps := 2000000 }) -implicitDefEqProofs (disch := (first | omega | rfl | assumption | (simp only [rsD]; first | omega | assumption))) only [hm, Nat.reduceAdd, Nat.reduceMul, Nat.reduceLT, Int.reduceToNat, Int.reduceAdd, Int.reduceSub, Int.reduceMul, rsU, rsC]
  -- there is an element for it
  refine Ok.step (Q := fun r => r.1 = [] ∧ ∃ sa' L' s, MemC r.2 mb tb sa' L' M.met M.low M.count ∧ L'[i]? = some s ∧ s.op = false ∧ (∀ x, (L'.map Sp.v).set i x = putAt M.sp i x) ∧ Chg (memF mb tb sa L) σ r.2 ∧ Fp (memF mb tb sa L) (memF mb tb sa' L') σ) ?_ ?_
  · by_cases hi : i = L.length
    · have rm : Nat.ble ((L.length + 1) * 33) 35184372088832 = true := s_room (by omega)
      have t2 : List.take (0 + 1 * 2) [AV.sl .nil 0, AV.b false] = [.sl .nil 0, .b false] := rfl
      have hC0 : MemC ((σ.bump 2).put σ.next (.cells true T_mem_space [.sl .nil 0, .b false])) mb tb sa L M.met M.low M.count := hC.of (by simp) fun b hb => by
        have := hC.flt b hb
        rw [s_bn (by omega)]; rfl
      generalize hσ0 : (σ.bump 2).put σ.next (.cells true T_mem_space [.sl .nil 0, .b false]) = σ0 at hC0
      have hm0 := (show σ0.blk mb = σ.blk mb by rw [← hσ0, s_bn (by omega)]; rfl).trans hm
      have n0 : σ0.next = σ.next + 2 := by rw [← hσ0]; rfl
      have b0 : ∀ b, b < σ.next → σ0.blk b = σ.blk b := fun b hb => by rw [← hσ0, s_bn (by omega)]; rfl
      have hnl : ∀ b ∈ memF mb tb sa L, b < σ.next := hC.flt
      simp (config := { maxSteps := 2000000 }) -implicitDefEqProofs (disch := (first | omega | rfl | assumption | (simp only [rsD]; first | omega | assumption))) only [hm, rm, hσ0, Nat.reduceAdd, Nat.reduceMul, Nat.reduceLT, Int.reduceToNat, Int.reduceAdd, Int.reduceSub, Int.reduceMul, rsU, rsC]
      refine Ok.step (app_ok (nid := σ.next + 1) hC0.slc (fun hb => by have := hnl (σ.next + 1) (by simp [memF, hb]); omega) (by omega) (m := 1) (new := [.sl .nil 0, .b false]) (by simp)) fun r ⟨a', g1, g2, g3, g4, g5⟩ => ?_
      obtain ⟨q, σ1⟩ := r
      simp only at g1 g2 g3 g4 g5
      subst g1
      have hmsa : mb ∉ SA.bk sa := fun hb => (hC.n1 mb hb).1 rfl
      have htsa : tb ∉ SA.bk sa := fun hb => (hC.n1 tb hb).2 rfl
      have htlt := hC.met.lt
      have hm1 : σ1.blk mb = _ := (g4 mb (by omega) hmsa).trans hm0
      simp (config := { maxSteps := 2000000 }) -implicitDefEqProofs (disch := (first | omega | rfl | assumption | (simp only [rsD]; first | omega | assumption))) only [hm1, Nat.reduceAdd, Nat.reduceMul, Nat.reduceLT, Int.reduceToNat, Int.reduceAdd, Int.reduceSub, Int.reduceMul, rsU, rsC]
      have hcells : L.flatMap Sp.cells ++ [.sl .nil 0, .b false] = (L ++ [(⟨.nil, false, []⟩ : Sp)]).flatMap Sp.cells := by simp [Sp.cells]
      have hmap : (L ++ [(⟨.nil, false, []⟩ : Sp)]).map Sp.sl = L.map Sp.sl ++ [(.nil, [])] := by simp [Sp.sl, u64s]
      have hsb : sbk (L.map Sp.sl ++ [(.nil, [])]) = sbk (L.map Sp.sl) := by rw [sbk_append]; simp [sbk, SA.bk]
      have hsn : ∀ b ∈ sbk (L.map Sp.sl), σ1.blk b = σ0.blk b := fun b hb => g4 b (by have := hnl b (by simp [memF, hb]); omega) (hC.n2 b hb).2.2
      refine Ok_some.2 ⟨rfl, a', L ++ [⟨.nil, false, []⟩], ⟨.nil, false, []⟩, ⟨⟨el', by rw [s_bs]; simp⟩, by simp only [put_next]; omega, ?_, ?_, ?_, hC.ne, ?_, ?_⟩, by rw [hi]; simp, rfl, fun x => ?_, ?_, ?_⟩
      · refine hC0.met.of (by simp only [put_next]; omega) ?_
        rw [s_bn (fun e => hC.ne e.symm), g4 tb (by omega) htsa]
      · rw [← hcells, List.length_append]
        exact g2.of (Nat.le_refl _) fun b hb => s_bn (by have := g5 b hb; omega)
      · rw [hmap]
        refine Sls.snoc ?_ ⟨0, OwnS.nil _ _ _⟩ (by simp [SA.bk])
        exact hC0.sls.of (by simp only [put_next]; omega) fun b hb => by rw [s_bn (hC.n2 b hb).1]; exact hsn b hb
      · intro b hb
        have := g5 b hb
        exact ⟨by omega, by omega⟩
      · intro b hb
        rw [hmap, hsb] at hb
        have h9 := hC.n2 b hb
        exact ⟨h9.1, h9.2.1, fun hb' => by have := g5 b hb'; have := hnl b (by simp [memF, hb]); omega⟩
      · rw [hi, List.map_append, putAt, if_neg (by omega), e]
        simp [List.set_append]
      · refine Chg.put ⟨by omega, fun b hb hn => ?_⟩ (.inl (by simp [memF])) _
        rw [g4 b (by omega) (fun hs => hn (by simp [memF, hs]))]; exact b0 b hb
      · intro b hb
        simp only [memF, List.mem_cons, List.mem_append, hmap, hsb] at hb ⊢
        rcases hb with g | g | g | g
        · exact .inl (.inl g)
        · exact .inl (.inr (.inl g))
        · exact .inr (by have := g5 b g; omega)
        · exact .inl (.inr (.inr (.inr g)))
    · have hlt : i < L.length := by omega
      have hs := List.getElem?_eq_getElem hlt
      simp (config := { maxSteps := 2000000 }) -implicitDefEqProofs (disch := (first | omega | rfl | assumption | (simp only [rsD]; first | omega | assumption))) only [Nat.reduceAdd, Nat.reduceMul, Nat.reduceLT, Int.reduceToNat, Int.reduceAdd, Int.reduceSub, Int.reduceMul, rsU, rsC]
      refine Ok_some.2 ⟨rfl, sa, L, L[i], hC, hs, ?_, fun x => ?_, Chg.refl _ _, Fp.refl _ _⟩
      · have := hfree.here L[i].v (by rw [e, List.getElem?_map, hs]; rfl)
        exact this
      · rw [putAt, if_pos (by omega), e]
  rintro ⟨q, σ1⟩ ⟨g0, sa', L', s, hC1, hs, hop, hput, hch, hfp⟩
  simp only at g0 hC1 hch
  subst g0
  obtain ⟨el1, hm1⟩ := hC1.m
  obtain ⟨k, rfl, hk, hk', _, _⟩ := hC1.at hs
  have hkn := hC1.n1 k (by simp [SA.bk])
  have kmb := hkn.1
  have ktb := hkn.2
  have hm1lt := hC1.mlt
  have hilt := (List.getElem?_eq_some_iff.1 hs).1
  have hl2 := fm_len Sp.len L'
  have hcnt : 0 ≤ M.count := by rw [hM.count]; omega
  have hsp : splice (L'.flatMap Sp.cells) (i * 2) [.sl (.loc (.n σ1.next) 0 1) n.toNat, .b true] = (L'.set i ⟨.loc (.n σ1.next) 0 1, true, List.replicate n.toNat 0⟩).flatMap Sp.cells := by
    have := fm_splice Sp.len L' i 0 [.sl (.loc (.n σ1.next) 0 1) n.toNat, .b true] s ⟨.loc (.n σ1.next) 0 1, true, List.replicate n.toNat 0⟩ hs (by simp) (by simp [splice, Sp.cells])
    simpa using this
  simp (config := { maxSteps := 2000000 }) -implicitDefEqProofs (disch := (first | omega | rfl | assumption | (simp only [rsD]; first | omega | assumption))) only [hm1, hk, u64s_rep, hl2, hsp, Nat.reduceAdd, Nat.reduceMul, Nat.reduceLT, Int.reduceToNat, Int.reduceAdd, Int.reduceSub, Int.reduceMul, rsU, rsC]
  obtain ⟨q1, q2⟩ := hC1.repl (σ' := (((σ1.bump 1).put σ1.next (.cells true T_uint64 (u64s (List.replicate n.toNat 0)))).put k (.cells true T_mem_space ((L'.set i ⟨.loc (.n σ1.next) 0 1, true, List.replicate n.toNat 0⟩).flatMap Sp.cells))).put mb (.cells true el1 [.p (some (.n tb, 0)), .sl (.loc (.n k) 0 2) L'.length, .i .i64 ((i : Int) + 1), .i .i64 (M.count + 1)]))
    hs (s' := ⟨.loc (.n σ1.next) 0 1, true, List.replicate n.toNat 0⟩) rfl (by simp) (fun b hb h1 h2 => by
      have := hC1.flt b hb
      rw [s_bn h2, s_bn h1, s_bn (by omega)]; rfl) (by rw [s_bn kmb, s_bs]) ⟨_, by rw [s_bs]⟩
    ⟨n.toNat, OwnS.new (by simp [u64s_len]) (by rw [s_bn (by omega), s_bn (by omega), s_bs]) (by simp)⟩ (by simp [SA.bk])
  have hq := Chg.put (L := memF mb tb (.loc (.n k) 0 2) L') (Chg.put (L := memF mb tb (.loc (.n k) 0 2) L') (Chg.put (((Chg.refl _ σ1).bump 1)) (.inr (Nat.le_refl _)) (.cells true T_uint64 (u64s (List.replicate n.toNat 0)))) (b := k) (.inl (by simp [memF, SA.bk])) (.cells true T_mem_space ((L'.set i ⟨.loc (.n σ1.next) 0 1, true, List.replicate n.toNat 0⟩).flatMap Sp.cells))) (b := mb) (.inl (by simp [memF])) (.cells true el1 [.p (some (.n tb, 0)), .sl (.loc (.n k) 0 2) L'.length, .i .i64 ((i : Int) + 1), .i .i64 (M.count + 1)])
  generalize hσ2 : (((σ1.bump 1).put σ1.next (.cells true T_uint64 (u64s (List.replicate n.toNat 0)))).put k (.cells true T_mem_space ((L'.set i ⟨.loc (.n σ1.next) 0 1, true, List.replicate n.toNat 0⟩).flatMap Sp.cells))).put mb (.cells true el1 [.p (some (.n tb, 0)), .sl (.loc (.n k) 0 2) L'.length, .i .i64 ((i : Int) + 1), .i .i64 (M.count + 1)]) = σ2 at q1 hq
  have n1 := hch.next
  have n2 := hq.next
  refine Ok.step (hold_ok q1.met hM.met h1 hroom) fun r ⟨g1, g2, g3⟩ => ?_
  obtain ⟨q, σ3⟩ := r
  simp only at g1 g2 g3
  subst g1
  simp (config := { maxSteps := 2000000 }) -implicitDefEqProofs (disch := (first | omega | rfl | assumption | (simp only [rsD]; first | omega | assumption))) only [Nat.reduceAdd, Nat.reduceMul, Nat.reduceLT, Int.reduceToNat, Int.reduceAdd, Int.reduceSub, Int.reduceMul, rsU, rsC]
  refine Ok_some.2 ⟨i, hfree, rfl, _, ⟨tb, _, _, rfl, ?_, q1.step g3 g2⟩, ?_, fun b hb => ?_⟩
  · show putAt M.sp i _ = _
    rw [← hput, List.map_set]; rfl
  · refine (hch.trans' hq fun b hb => hfp b hb).trans' g3 fun b hb => .inl ?_
    simp at hb; subst hb; simp [memF]
  · rcases q2 b hb with g | g
    · exact hfp b g
    · exact .inr (by omega)
theorem open_bad {σ : AH O} {mb : Nat} {F : List Nat} {M : MemS} {n : Int} (h : MemAt σ mb F M) (h1 : n < 0 ∨ n > 4194304 ∨ M.count ≥ 262144) :
    mem_Mem__Open [.p (some (.n mb, 0)), .i .i64 n] σ = some (.tup [.i .i64 0, .i .i64 (if n < 0 then 1 else if n > 4194304 then 7 else 3)], σ) := by
  obtain ⟨tb, sa, L, rfl, e, hC⟩ := h
  obtain ⟨el', hm⟩ := hC.m
  by_cases c1 : n < 0
  · simp (config := { maxSteps := 2000000 }) -implicitDefEqProofs (disch := (first | omega | rfl | assumption | (simp only [rsD]; first | omega | assumption))) only [mem_Mem__Open, mem_Mem__Open_c, hm, Nat.reduceAdd, Nat.reduceMul, Nat.reduceLT, Int.reduceToNat, Int.reduceAdd, Int.reduceSub, Int.reduceMul, rsU, rsC]
    rw [if_pos c1]
  · by_cases c2 : n > 4194304
    · simp (config := { maxSteps := 2000000 }) -implicitDefEqProofs (disch := (first | omega | rfl | assumption | (simp only [rsD]; first | omega | assumption))) only [mem_Mem__Open, mem_Mem__Open_c, hm, Nat.reduceAdd, Nat.reduceMul, Nat.reduceLT, Int.reduceToNat, Int.reduceAdd, Int.reduceSub, Int.reduceMul, rsU, rsC]
      rw [if_neg c1, if_pos c2]
    · simp (config := { maxSteps := 2000000 }) -implicitDefEqProofs (disch := (first | omega | rfl | assumption | (simp only [rsD]; first | omega | assumption))) only [mem_Mem__Open, mem_Mem__Open_c, hm, Nat.reduceAdd, Nat.reduceMul, Nat.reduceLT, Int.reduceToNat, Int.reduceAdd, Int.reduceSub, Int.reduceMul, rsU, rsC]
      rw [if_neg c1, if_neg c2]
end Go.Abs.Try
