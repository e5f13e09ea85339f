/-
  LargeSweeps: the statement's function answers true. No conditions.
-/
import Derived.Test.YtgmffmgbaelohaaM15g
set_option linter.unusedVariables false
set_option linter.unusedSimpArgs false
set_option linter.constructorNameAsVariable false
set_option linter.unusedSimpArgs false
set_option linter.unusedVariables false
set_option linter.unusedSectionVars false
set_option maxHeartbeats 1000000
namespace Go.Abs.Try
open Go Go.Abs
variable {O : Type}

/-- is a number among some? -/
theorem has_cells {σ : AH O} {a : SA} {l : List Int} (ha : Rd σ 1 a l.length (l.map (AV.i .i64))) (hn : l.length ≤ 1000000) {x : Int} : Ok (haymowref15_Has [.sl a l.length, .i .i64 x] σ) fun r => r = (.b (decide (x ∈ l)), σ) := by
  simp (config := { maxSteps := 2000000 }) -implicitDefEqProofs (disch := (first | omega | rfl | assumption | (simp only [rsD]; first | omega | assumption))) only [haymowref15_Has, haymowref15_Has_c, Nat.reduceAdd, Nat.reduceMul, Nat.reduceLT, Int.reduceToNat, Int.reduceAdd, Int.reduceSub, Int.reduceMul, rsU, rsC]
  refine Ok.bindS (Q := fun r => (r = .inl ([], σ) ∧ x ∉ l) ∨ (r = .inr (.b true, σ) ∧ x ∈ l)) ?_ ?_ ?_
  · refine Ok.count l.length (fun k s => s = ([.i .i64 (k : Int)], σ) ∧ x ∉ l.take k) ?_ ?_ ⟨rfl, by simp⟩
    · rintro k s hk ⟨rfl, hx⟩
      have hv := List.getElem?_eq_getElem hk
      have hc : (l.map (AV.i .i64))[k]? = some (.i .i64 l[k]) := by rw [List.getElem?_map, hv]; rfl
      obtain ⟨b1, o1, e1, l1⟩ := ha.at1 hc
      have r1 : SA.ref a = some (b1, o1) := by rw [e1]; rfl
      simp only [Nat.mul_one] at l1
      by_cases hxk : l[k] = x
      · have q1 : (l[k] == x) = true := by simp [hxk]
        simp (config := { maxSteps := 2000000 }) -implicitDefEqProofs (disch := (first | omega | rfl | assumption | (simp only [rsD]; first | omega | assumption))) only [haymowref15_Has_L1, r1, l1, q1, Nat.reduceAdd, Nat.reduceMul, Nat.reduceLT, Int.reduceToNat, Int.reduceAdd, Int.reduceSub, Int.reduceMul, rsU, rsC]
        exact Ok_some.2 (.inr ⟨rfl, hxk ▸ List.getElem_mem hk⟩)
      · have q1 : (l[k] == x) = false := by simp [hxk]
        simp (config := { maxSteps := 2000000 }) -implicitDefEqProofs (disch := (first | omega | rfl | assumption | (simp only [rsD]; first | omega | assumption))) only [haymowref15_Has_L1, r1, l1, q1, Nat.reduceAdd, Nat.reduceMul, Nat.reduceLT, Int.reduceToNat, Int.reduceAdd, Int.reduceSub, Int.reduceMul, rsU, rsC]
        refine Ok_some.2 ⟨by simp, ?_⟩
        rw [List.take_succ_eq_append_getElem hk, List.mem_append]
        rintro (h | h)
        · exact hx h
        · simp at h; exact hxk h.symm
    · rintro s ⟨rfl, hx⟩
      rw [List.take_length] at hx
      simp (config := { maxSteps := 2000000 }) -implicitDefEqProofs (disch := (first | omega | rfl | assumption | (simp only [rsD]; first | omega | assumption))) only [haymowref15_Has_L1, Nat.reduceAdd, Nat.reduceMul, Nat.reduceLT, Int.reduceToNat, Int.reduceAdd, Int.reduceSub, Int.reduceMul, rsU, rsC]
      exact Ok_some.2 (.inl ⟨rfl, hx⟩)
  · rintro s (⟨h, hx⟩ | ⟨h, _⟩)
    · cases h
      simp (config := { maxSteps := 2000000 }) -implicitDefEqProofs (disch := (first | omega | rfl | assumption | (simp only [rsD]; first | omega | assumption))) only [Nat.reduceAdd, Nat.reduceMul, Nat.reduceLT, Int.reduceToNat, Int.reduceAdd, Int.reduceSub, Int.reduceMul, rsU, rsC]
      exact Ok_some.2 (by simp [hx])
    · cases h
  · rintro r (⟨h, _⟩ | ⟨h, hx⟩)
    · cases h
    · cases h; simp [hx]
theorem MemIn.heldT {σ : AH O} {mb : Nat} {M : MemS} {X : List Nat} (h : MemIn σ mb M X) : ∃ tb el rest, σ.blk mb = some (.cells true el (.p (some (.n tb, 0)) :: rest)) ∧ meter_Meter__Held [.p (some (.n tb, 0))] σ = some (.i .i64 M.met.held, σ) := by
  obtain ⟨F, h1, _⟩ := h
  obtain ⟨tb, el, rest, e, hm⟩ := h1.meter
  exact ⟨tb, el, rest, e, held_ok hm⟩
theorem mk1_len {L : LarS} {i : Nat} (hn : L.W.Nodup) (h : i ∉ L.H → i ∈ L.W) : (L.mk1 i).H.length + (L.mk1 i).W.length = L.H.length + L.W.length := by
  by_cases hi : i ∈ L.H
  · rw [mk1_old hi]
  · rw [mk1_new hi]
    obtain ⟨d, hd⟩ := List.getElem?_of_mem (h hi)
    have hdl := (List.getElem?_eq_some_iff.1 hd).1
    simp only
    rw [← eraseIdx_filter hn hd, List.length_eraseIdx, if_pos hdl]
    simp
    omega
theorem mk1_words (L : LarS) (i : Nat) : (L.mk1 i).words = L.words := by unfold LarS.mk1; split <;> rfl
theorem mk1_len_of (L : LarS) (i : Nat) : (L.mk1 i).len = L.len := by funext j; unfold LarS.len; rw [mk1_ob]
def obOf (z wd : Int) (i : Nat) : List Int := (List.replicate (1 + z).toNat 0).set z.toNat (IntKind.u64.wrap (wd + i))
def tot (zs : List Int) (k : Nat) : Int := ((zs.take k).map fun z => 1 + z).sum
theorem tot_succ {zs : List Int} {k : Nat} (hk : k < zs.length) : tot zs (k + 1) = tot zs k + (1 + zs[k]) := by
  unfold tot
  rw [List.take_succ_eq_append_getElem hk, List.map_append, List.sum_append]
  simp only [List.map_cons, List.map_nil, List.sum_cons, List.sum_nil]
  omega
theorem tot_le {zs : List Int} (hz : ∀ z ∈ zs, 0 ≤ z ∧ z < 256) : ∀ k, 0 ≤ tot zs k ∧ tot zs k ≤ 256 * k
  | 0 => by simp [tot]
  | k + 1 => by
    obtain ⟨h1, h2⟩ := tot_le hz k
    by_cases hk : k < zs.length
    · have := hz _ (List.getElem_mem hk)
      rw [tot_succ hk]; omega
    · unfold tot at *
      rw [List.take_of_length_le (by omega)] at *
      omega
structure Sw1 (σ : AH O) (lb pb mb : Nat) (M : MemS) (S : PoolS) (w : List Int) (L : LarS) (zs : List Int) (wd : Int) (k : Nat) : Prop where
  p : LarAt σ lb pb mb M S w L [] []
  ad : Addd S L k
  few : M.few (30 * k) (1 + k)
  held : M.met.held = L.words + 6 * S.room
  ob : ∀ (i : Nat) (z : Int), i < k → zs[i]? = some z → L.ob i = some (obOf z wd i)
  non : ∀ i, k ≤ i → L.ob i = none
  words : L.words = tot zs k
structure SwSt (σ : AH O) (lb pb mb : Nat) (M : MemS) (S : PoolS) (w : List Int) (L : LarS) (a : SA) (zs : List Int) (wd : Int) (R : Nat) (k : Int) : Prop where
  p : LarAt σ lb pb mb M S w L (SA.bk a) []
  oa : OwnS σ 3 1 a L.H.length ((nums L.H).map (AV.i .i64))
  few : M.few k 200
  held : M.met.held = L.words + 6 * S.room
  ob : ∀ (i : Nat) (z : Int), zs[i]? = some z → L.ob i = some (obOf z wd i)
  non : ∀ i, zs.length ≤ i → L.ob i = none
  len : L.H.length + L.W.length = zs.length
  hN : ∀ i ∈ L.H, i < zs.length
  words : L.words = tot zs zs.length
  gen : ∀ e ∈ S.E, e.gen = 0
  room : S.room = R
theorem Alike.gen0 {S S' : PoolS} (h : Alike S S') (hg : ∀ e ∈ S.E, e.gen = 0) : ∀ e ∈ S'.E, e.gen = 0 := fun e he => by
  obtain ⟨i, hi⟩ := List.getElem?_of_mem he
  obtain ⟨e1, h1, _, h3⟩ := h.back hi
  rw [h3]; exact hg _ (List.mem_of_getElem? h1)
theorem obOf_len {z wd : Int} {i : Nat} (hz : 0 ≤ z) : ((obOf z wd i).length : Int) = 1 + z := by unfold obOf; simp; omega
theorem sw_add {σ : AH O} {lb pb mb : Nat} {M : MemS} {S : PoolS} {w : List Int} {L : LarS} {zs : List Int} {wd : Int} {k : Nat} (s : Sw1 σ lb pb mb M S w L zs wd k) (hk : k < zs.length) (hN : zs.length ≤ 40) (hz : ∀ z ∈ zs, 0 ≤ z ∧ z < 256) {sa : SA} (hi : Imm 1 sa zs.length (zs.map (AV.i .u8))) :
    Ok (law15_LargeSweeps_L1 (sa, zs.length) large_Large__Add (some (.n lb, 0)) large_Large__Write wd ([.i .i64 (k : Int)], σ)) fun r => ∃ σ' M' S' w' L', r = .inl ([.i .i64 ((k : Int) + 1)], σ') ∧ Sw1 σ' lb pb mb M' S' w' L' zs wd (k + 1) := by
  have hv := List.getElem?_eq_getElem hk
  have hzk := hz _ (List.getElem_mem hk)
  have hc : (zs.map (AV.i .u8))[k]? = some (.i .u8 zs[k]) := by rw [List.getElem?_map, hv]; rfl
  obtain ⟨b1, o1, x1, l1⟩ := (hi O ⟨fun _ => none, 0⟩).at1 hc
  have hts := tot_succ hk
  have ld : ∀ σ : AH O, σ.ld b1 (o1 + k) = some (.i .u8 zs[k]) := fun σ => by
    obtain ⟨b2, o2, x2, l2⟩ := (hi O σ).at1 hc
    rw [x1] at x2; cases x2
    simpa using l2
  have r1 : SA.ref sa = some (b1, o1) := by rw [x1]; rfl
  generalize zs[k] = z at *
  have hm := s.ad.more (k := k) (by omega)
  have fw := s.few
  simp (config := { maxSteps := 2000000 }) -implicitDefEqProofs (disch := (first | omega | rfl | assumption | (simp only [rsD]; first | omega | assumption))) only [law15_LargeSweeps_L1, r1, ld, Nat.reduceAdd, Nat.reduceMul, Nat.reduceLT, Int.reduceToNat, Int.reduceAdd, Int.reduceSub, Int.reduceMul, rsU, rsC]
  refine Ok.step (ladd_ok s.p (fw.far s.p.p.mi.ok (by omega)) (n := 1 + z) (by omega) (by omega) (by have := fw.2; omega) (by omega)) fun r ⟨k1, k2, M2, S2, w2, p2, al, c2, k3⟩ => ?_
  obtain ⟨q, σ2⟩ := r
  simp only at k1 p2 k3
  obtain ⟨t1, t2⟩ := s.ad.took (n := 1 + z) (v := List.replicate (1 + z).toNat 0) (by omega) al
  have hro := al.room
  rw [t1] at k1 p2 t2 k2
  subst k1
  have q1 : ((k : Int) + 1 != (k : Int) + 1) = false := by simp
  have e0 : ((0 : Int) != 0) = false := rfl
  have fw2 : M2.few (30 * k + 24) (1 + k + 1) := c2.few fw
  simp (config := { maxSteps := 2000000 }) -implicitDefEqProofs (disch := (first | omega | rfl | assumption | (simp only [rsD]; first | omega | assumption))) only [q1, e0, r1, ld, Nat.reduceAdd, Nat.reduceMul, Nat.reduceLT, Int.reduceToNat, Int.reduceAdd, Int.reduceSub, Int.reduceMul, rsU, rsC]
  have lw := lwrite_ok p2 (fw2.far p2.p.mi.ok (by omega)) (i := k) (ws := List.replicate (1 + z).toNat 0) (by simp) (at_ := z) (x := IntKind.u64.wrap (wd + k)) (by simp; omega)
  refine Ok.step lw fun r ⟨k4, M3, p3, c3, k5⟩ => ?_
  obtain ⟨q, σ3⟩ := r
  simp only at k4 p3 k5
  subst k4
  simp (config := { maxSteps := 2000000 }) -implicitDefEqProofs (disch := (first | omega | rfl | assumption | (simp only [rsD]; first | omega | assumption))) only [e0, Nat.reduceAdd, Nat.reduceMul, Nat.reduceLT, Int.reduceToNat, Int.reduceAdd, Int.reduceSub, Int.reduceMul, rsU, rsC]
  refine Ok_some.2 ⟨σ3, M3, S2, w2, _, rfl, p3, ⟨t2.free, t2.len, t2.room, t2.H, t2.W, t2.last, t2.ep, t2.gen⟩, (c3.few fw2).le (by omega) (by omega), ?_, fun i z' hik hz' => ?_, fun i hik => ?_, ?_⟩
  · have h1 := c2.held
    have h2 := c3.held
    have h3 := s.held
    simp only
    rw [h2, h1, h3, hro]
    omega
  · simp only
    by_cases hki : i = k
    · subst hki
      rw [if_pos rfl]
      rw [hv] at hz'; cases hz'
      rfl
    · rw [if_neg hki, if_neg hki]; exact s.ob i z' (by omega) hz'
  · simp only
    rw [if_neg (by omega), if_neg (by omega)]; exact s.non i (by omega)
  · simp only; rw [s.words, hts]
/-- one mark -/
theorem sw_mark {σ : AH O} {lb pb mb : Nat} {M : MemS} {S : PoolS} {w : List Int} {L : LarS} {a : SA} {zs ms : List Int} {wd : Int} {R k : Nat} (s : SwSt σ lb pb mb M S w L a zs wd R (2000 + 12 * k)) (hk : k < ms.length) (hN : zs.length ≤ 40) (hM : ms.length ≤ 40) (hz : ∀ z ∈ zs, 0 ≤ z ∧ z < 256) (hmz : ∀ z ∈ ms, 0 ≤ z ∧ z < 256) {sa sm : SA} (hi : Imm 1 sa zs.length (zs.map (AV.i .u8))) (him : Imm 1 sm ms.length (ms.map (AV.i .u8))) :
    Ok (law15_LargeSweeps_L2 (sm, ms.length) large_Large__Mark (some (.n lb, 0)) (sa, zs.length) haymowref15_Has ([.sl a L.H.length, .i .i64 (((L.H.map L.len).sum : Nat) : Int), .i .i64 (k : Int)], σ)) fun r => ∃ σ' M' S' w' L' a', r = .inl ([.sl a' L'.H.length, .i .i64 (((L'.H.map L'.len).sum : Nat) : Int), .i .i64 ((k : Int) + 1)], σ') ∧ SwSt σ' lb pb mb M' S' w' L' a' zs wd R (2000 + 12 * (k + 1)) := by
  have hv := List.getElem?_eq_getElem hk
  have hmk := hmz _ (List.getElem_mem hk)
  have hc : (ms.map (AV.i .u8))[k]? = some (.i .u8 ms[k]) := by rw [List.getElem?_map, hv]; rfl
  obtain ⟨b1, o1, x1, l1⟩ := (him O σ).at1 hc
  have r1 : SA.ref sm = some (b1, o1) := by rw [x1]; rfl
  simp only [Nat.mul_one] at l1
  generalize ms[k] = m at hmk l1
  have hf : M.far 1000 := s.few.far s.p.p.mi.ok (by omega)
  have hHl : L.H.length ≤ 40 := by have := s.len; omega
  have hwb := s.p.wb
  have hsum := s.p.sum
  simp only [List.map_append, List.sum_append] at hsum
  have ef : (false == false) = true := rfl
  simp (config := { maxSteps := 2000000 }) -implicitDefEqProofs (disch := (first | omega | rfl | assumption | (simp only [rsD]; first | omega | assumption))) only [law15_LargeSweeps_L2, r1, l1, Nat.reduceAdd, Nat.reduceMul, Nat.reduceLT, Int.reduceToNat, Int.reduceAdd, Int.reduceSub, Int.reduceMul, rsU, rsC]
  refine Ok.bindS (Q := fun r => ∃ σ' M' S' w' L' a', r = .inl ([.sl a' L'.H.length, .i .i64 (((L'.H.map L'.len).sum : Nat) : Int)], σ') ∧ SwSt σ' lb pb mb M' S' w' L' a' zs wd R (2000 + 12 * (k + 1))) ?_ ?_ (fun r h => by obtain ⟨_, _, _, _, _, _, e, _⟩ := h; cases e)
  · by_cases hin : m < 1 ∨ (zs.length : Int) < m
    · refine Ok.step (lmark_no s.p hf fun i e => s.non i (by omega)) fun r ⟨g1, M1, g2, g3, g4⟩ => ?_
      obtain ⟨q, σ1⟩ := r
      simp only at g1 g2 g4
      subst g1
      have s1 : SwSt σ1 lb pb mb M1 S w L a zs wd R (2000 + 12 * (k + 1)) := { s with p := g2, oa := s.oa.of g4.next fun b hb => g4.blk b hb, few := (g3.few s.few).le (by omega) (by omega), held := by rw [g3.held, s.held]; omega }
      have e4 : ((4 : Int) != 4) = false := rfl
      rcases Int.lt_or_le m 1 with h1 | h1
      · simp (config := { maxSteps := 2000000 }) -implicitDefEqProofs (disch := (first | omega | rfl | assumption | (simp only [rsD]; first | omega | assumption))) only [e4, ef, Nat.reduceAdd, Nat.reduceMul, Nat.reduceLT, Int.reduceToNat, Int.reduceAdd, Int.reduceSub, Int.reduceMul, rsU, rsC]
        exact Ok_some.2 ⟨σ1, M1, S, w, L, a, rfl, s1⟩
      · have h2 : (zs.length : Int) < m := by omega
        simp (config := { maxSteps := 2000000 }) -implicitDefEqProofs (disch := (first | omega | rfl | assumption | (simp only [rsD]; first | omega | assumption))) only [e4, ef, Nat.reduceAdd, Nat.reduceMul, Nat.reduceLT, Int.reduceToNat, Int.reduceAdd, Int.reduceSub, Int.reduceMul, rsU, rsC]
        exact Ok_some.2 ⟨σ1, M1, S, w, L, a, rfl, s1⟩
    · obtain ⟨i, rfl⟩ : ∃ i : Nat, m = (i : Int) + 1 := ⟨(m - 1).toNat, by omega⟩
      have hiz : i < zs.length := by omega
      have hzv := List.getElem?_eq_getElem hiz
      have hzi := hz _ (List.getElem_mem hiz)
      generalize zs[i] = z at hzv hzi
      have hoi := s.ob i z hzv
      refine Ok.step (lmark_any s.p hf (i := i) (by rw [hoi]; simp)) fun r ⟨g1, M1, S1, w1, g2, ga, g3, g4⟩ => ?_
      obtain ⟨q, σ1⟩ := r
      simp only at g1 g2 g4
      subst g1
      have oa1 := s.oa.of g4.next fun b hb => g4.blk b hb
      have hwn : i ∉ L.H → i ∈ L.W := fun hh => (s.p.all i (by rw [hoi]; simp)).resolve_left hh
      have hml := mk1_len s.p.lW.nd hwn
      have hs := has_cells (l := nums L.H) (x := (i : Int) + 1) (by rw [nums_len]; exact oa1.rd) (by rw [nums_len]; omega)
      rw [nums_len] at hs
      have hmem : ((i : Int) + 1 ∈ nums L.H) ↔ i ∈ L.H := by
        unfold nums
        rw [List.mem_map]
        constructor
        · rintro ⟨j, hj, e⟩; have : j = i := by omega
          subst this; exact hj
        · exact fun hj => ⟨i, hj, rfl⟩
      have few1 : M1.few (2000 + 12 * (k + 1)) 200 := (g3.few s.few).le (by omega) (by omega)
      have held1 : M1.met.held = L.words + 6 * S1.room := by rw [g3.held, s.held, ga.room]; omega
      simp (config := { maxSteps := 2000000 }) -implicitDefEqProofs (disch := (first | omega | rfl | assumption | (simp only [rsD]; first | omega | assumption))) only [ef, Nat.reduceAdd, Nat.reduceMul, Nat.reduceLT, Int.reduceToNat, Int.reduceAdd, Int.reduceSub, Int.reduceMul, rsU, rsC]
      refine Ok.step hs fun r hr => ?_
      subst hr
      have e0 : ((0 : Int) != 0) = false := rfl
      by_cases hH : i ∈ L.H
      · have d1 : decide (i ∈ L.H) = true := decide_eq_true hH
        have d2 : decide ((i : Int) + 1 ∈ nums L.H) = true := decide_eq_true (hmem.2 hH)
        have bb : ((false == true) == false) = true := rfl
        rw [mk1_old hH] at g2
        simp only [d1, d2]
        simp (config := { maxSteps := 2000000 }) -implicitDefEqProofs (disch := (first | omega | rfl | assumption | (simp only [rsD]; first | omega | assumption))) only [bb, e0, ef, Nat.reduceAdd, Nat.reduceMul, Nat.reduceLT, Int.reduceToNat, Int.reduceAdd, Int.reduceSub, Int.reduceMul, rsU, rsC]
        exact Ok_some.2 ⟨σ1, M1, S1, w1, L, a, rfl, { s with p := g2, oa := oa1, few := few1, held := held1, gen := ga.gen0 s.gen, room := by rw [ga.room]; exact s.room }⟩
      · have d1 : decide (i ∈ L.H) = false := decide_eq_false hH
        have d2 : decide ((i : Int) + 1 ∈ nums L.H) = false := decide_eq_false fun hh => hH (hmem.1 hh)
        have bb : ((true == false) == false) = true := rfl
        rw [mk1_new hH] at g2
        rw [mk1_new hH] at hml
        simp only [d1, d2]
        simp (config := { maxSteps := 2000000 }) -implicitDefEqProofs (disch := (first | omega | rfl | assumption | (simp only [rsD]; first | omega | assumption))) only [bb, e0, ef, Nat.reduceAdd, Nat.reduceMul, Nat.reduceLT, Int.reduceToNat, Int.reduceAdd, Int.reduceSub, Int.reduceMul, rsU, rsC]
        obtain ⟨⟨q, σ2⟩, e, a', h1, h2, h3, h4⟩ := grow1 (v := .i .i64 ((i : Int) + 1)) oa1
        simp only at h1 h2 h3 h4
        subst h1
        obtain ⟨b2, o2, x2, l2⟩ := (hi O σ2).at1 (show (zs.map (AV.i .u8))[i]? = some (.i .u8 z) by rw [List.getElem?_map, hzv]; rfl)
        have r2 : SA.ref sa = some (b2, o2) := by rw [x2]; rfl
        simp only [Nat.mul_one] at l2
        have ti : ((i : Int) + 1 - 1).toNat = i := by omega
        have hsum1 : (((L.H.map L.len).sum : Nat) : Int) ≤ L.words := by omega
        simp (config := { maxSteps := 2000000 }) -implicitDefEqProofs (disch := (first | omega | rfl | assumption | (simp only [rsD]; first | omega | assumption))) only [e, r2, l2, ti, Nat.reduceAdd, Nat.reduceMul, Nat.reduceLT, Int.reduceToNat, Int.reduceAdd, Int.reduceSub, Int.reduceMul, rsU, rsC]
        have hli : ((L.len i : Nat) : Int) = 1 + z := by unfold LarS.len; rw [hoi]; exact obOf_len hzi.1
        refine Ok_some.2 ⟨σ2, M1, S1, w1, _, a', ?_, ⟨g2.turn h3 (fun b hb => .inl hb) (fun b hb => .inr (h4 b hb)), ?_, few1, held1, s.ob, s.non, hml.trans s.len, fun j hj => ?_, s.words, ga.gen0 s.gen, by rw [ga.room]; exact s.room⟩⟩
        · have hl : LarS.len { L with H := L.H ++ [i], W := L.W.filter (fun j => j != i) } = L.len := rfl
          rw [hl]
          simp only [List.length_append, List.length_cons, List.length_nil, List.map_append, List.sum_append, List.map_cons, List.map_nil, List.sum_cons, List.sum_nil, Nat.add_zero, Int.natCast_add, hli]
          rw [Int.add_assoc]
        · simp only [List.length_append, List.length_cons, List.length_nil, nums_snoc]; exact h2
        · rcases List.mem_append.1 hj with hj | hj
          · exact s.hN j hj
          · simp at hj; subst hj; exact hiz
  · rintro _ ⟨σ', M', S', w', L', a', e, s'⟩
    simp only [Sum.inl.injEq] at e
    subst e
    simp (config := { maxSteps := 2000000 }) -implicitDefEqProofs (disch := (first | omega | rfl | assumption | (simp only [rsD]; first | omega | assumption))) only [Nat.reduceAdd, Nat.reduceMul, Nat.reduceLT, Int.reduceToNat, Int.reduceAdd, Int.reduceSub, Int.reduceMul, rsU, rsC]
    exact Ok_some.2 ⟨σ', M', S', w', L', a', rfl, s'⟩
theorem total_ok {σ : AH O} {zs : List Int} {sa : SA} (hi : Imm 1 sa zs.length (zs.map (AV.i .u8))) (hz : ∀ z ∈ zs, 0 ≤ z ∧ z < 256) (hl : zs.length ≤ 1000) : Ok (law15_total [.sl sa zs.length] σ) fun r => r = (.i .i64 (tot zs zs.length), σ) := by
  simp (config := { maxSteps := 2000000 }) -implicitDefEqProofs (disch := (first | omega | rfl | assumption | (simp only [rsD]; first | omega | assumption))) only [law15_total, law15_total_c, Nat.reduceAdd, Nat.reduceMul, Nat.reduceLT, Int.reduceToNat, Int.reduceAdd, Int.reduceSub, Int.reduceMul, rsU, rsC]
  refine Ok.step (Ok.count (Q := fun r => r = ([.i .i64 (tot zs zs.length)], σ)) zs.length (fun k s => s = ([.i .i64 (tot zs k), .i .i64 (k : Int)], σ)) ?_ ?_ rfl) ?_
  · rintro k _ hk rfl
    have hv := List.getElem?_eq_getElem hk
    have hzk := hz _ (List.getElem_mem hk)
    have hc : (zs.map (AV.i .u8))[k]? = some (.i .u8 zs[k]) := by rw [List.getElem?_map, hv]; rfl
    obtain ⟨b1, o1, x1, l1⟩ := (hi O σ).at1 hc
    have r1 : SA.ref sa = some (b1, o1) := by rw [x1]; rfl
    simp only [Nat.mul_one] at l1
    have hts := tot_succ hk
    have htl := tot_le hz k
    generalize zs[k] = z at *
    simp (config := { maxSteps := 2000000 }) -implicitDefEqProofs (disch := (first | omega | rfl | assumption | (simp only [rsD]; first | omega | assumption))) only [law15_total_L1, r1, l1, Nat.reduceAdd, Nat.reduceMul, Nat.reduceLT, Int.reduceToNat, Int.reduceAdd, Int.reduceSub, Int.reduceMul, rsU, rsC]
    refine Ok_some.2 ?_
    rw [hts, Int.natCast_add, ← Int.add_assoc]
    rfl
  · rintro _ rfl
    simp (config := { maxSteps := 2000000 }) -implicitDefEqProofs (disch := (first | omega | rfl | assumption | (simp only [rsD]; first | omega | assumption))) only [law15_total_L1, Nat.reduceAdd, Nat.reduceMul, Nat.reduceLT, Int.reduceToNat, Int.reduceAdd, Int.reduceSub, Int.reduceMul, rsU, rsC]
    exact Ok_some.2 rfl
  · rintro _ rfl
    simp (config := { maxSteps := 2000000 }) -implicitDefEqProofs (disch := (first | omega | rfl | assumption | (simp only [rsD]; first | omega | assumption))) only [Nat.reduceAdd, Nat.reduceMul, Nat.reduceLT, Int.reduceToNat, Int.reduceAdd, Int.reduceSub, Int.reduceMul, rsU, rsC]
    exact Ok_some.2 rfl
theorem largeSweeps_ok {sa sm : SA} {zs ms : List Int} {wd : Int} (hi : Imm 1 sa zs.length (zs.map (AV.i .u8))) (hz : ∀ z ∈ zs, 0 ≤ z ∧ z < 256) (him : Imm 1 sm ms.length (ms.map (AV.i .u8))) (hmz : ∀ z ∈ ms, 0 ≤ z ∧ z < 256) (hl1 : zs.length ≤ 9223372036854775807) (hl2 : ms.length ≤ 9223372036854775807) :
    Ok (law15_LargeSweeps (O := O) [.sl sa zs.length, .sl sm ms.length, .i .u64 wd] startH) fun r => r.1 = .b true := by
  obtain ⟨σ0, ea⟩ := awake15 (O := O)
  have ef : (false == false) = true := rfl
  simp (config := { maxSteps := 2000000 }) -implicitDefEqProofs (disch := (first | omega | rfl | assumption | (simp only [rsD]; first | omega | assumption))) only [law15_LargeSweeps, law15_LargeSweeps_c, ea, Nat.reduceAdd, Nat.reduceMul, Nat.reduceLT, Int.reduceToNat, Int.reduceAdd, Int.reduceSub, Int.reduceMul, rsU, rsC]
  by_cases hb1 : (zs.length : Int) > 40
  · simp (config := { maxSteps := 2000000 }) -implicitDefEqProofs (disch := (first | omega | rfl | assumption | (simp only [rsD]; first | omega | assumption))) only [Nat.reduceAdd, Nat.reduceMul, Nat.reduceLT, Int.reduceToNat, Int.reduceAdd, Int.reduceSub, Int.reduceMul, rsU, rsC]
    exact Ok_some.2 rfl
  by_cases hb2 : (ms.length : Int) > 40
  · simp (config := { maxSteps := 2000000 }) -implicitDefEqProofs (disch := (first | omega | rfl | assumption | (simp only [rsD]; first | omega | assumption))) only [ef, Nat.reduceAdd, Nat.reduceMul, Nat.reduceLT, Int.reduceToNat, Int.reduceAdd, Int.reduceSub, Int.reduceMul, rsU, rsC]
    exact Ok_some.2 rfl
  simp (config := { maxSteps := 2000000 }) -implicitDefEqProofs (disch := (first | omega | rfl | assumption | (simp only [rsD]; first | omega | assumption))) only [ef, Nat.reduceAdd, Nat.reduceMul, Nat.reduceLT, Int.reduceToNat, Int.reduceAdd, Int.reduceSub, Int.reduceMul, rsU, rsC]
  refine Ok.step made15 fun r ⟨mb, lb, pb, M1, g1, g2, g3, g4⟩ => ?_
  obtain ⟨q, σ1⟩ := r
  simp only at g1 g2
  subst g1
  simp (config := { maxSteps := 2000000 }) -implicitDefEqProofs (disch := (first | omega | rfl | assumption | (simp only [rsD]; first | omega | assumption))) only [Nat.reduceAdd, Nat.reduceMul, Nat.reduceLT, Int.reduceToNat, Int.reduceAdd, Int.reduceSub, Int.reduceMul, rsU, rsC]
  refine Ok.bindS (Q := fun r => ∃ σ' M S w L, r = .inl ([], σ') ∧ Sw1 σ' lb pb mb M S w L zs wd zs.length) ?_ ?_ (fun r h => by obtain ⟨_, _, _, _, _, e, _⟩ := h; cases e)
  · refine Ok.count zs.length (fun k s => ∃ σ' M S w L, s = ([.i .i64 (k : Int)], σ') ∧ Sw1 σ' lb pb mb M S w L zs wd k) ?_ ?_ ⟨σ1, M1, _, _, _, rfl, g2, ⟨rfl, rfl, by decide, rfl, rfl, rfl, rfl, fun e he => by simp at he⟩, g3.le (by omega) (by omega), by rw [g4]; rfl, fun i z hi => by omega, fun i _ => rfl, by simp [tot]⟩
    · rintro k _ hk ⟨σ', M, S, w, L, rfl, s⟩
      refine (sw_add s hk (by omega) hz hi).mono ?_
      rintro _ ⟨σ2, M2, S2, w2, L2, rfl, s2⟩
      exact ⟨σ2, M2, S2, w2, L2, by rw [Int.natCast_add]; rfl, s2⟩
    · rintro _ ⟨σ', M, S, w, L, rfl, s⟩
      simp (config := { maxSteps := 2000000 }) -implicitDefEqProofs (disch := (first | omega | rfl | assumption | (simp only [rsD]; first | omega | assumption))) only [law15_LargeSweeps_L1, Nat.reduceAdd, Nat.reduceMul, Nat.reduceLT, Int.reduceToNat, Int.reduceAdd, Int.reduceSub, Int.reduceMul, rsU, rsC]
      exact Ok_some.2 ⟨σ', M, S, w, L, rfl, s⟩
  rintro _ ⟨σ2, M2, S2, w2, L2, e, s2⟩
  simp only [Sum.inl.injEq] at e
  subst e
  obtain ⟨tb, elm, rest, bm, hm⟩ := s2.p.p.mi.heldT
  have hlw := lwords_ok s2.p
  have hwb2 := s2.p.wb
  have hro := s2.ad.room
  have hh2 := s2.held
  simp (config := { maxSteps := 2000000 }) -implicitDefEqProofs (disch := (first | omega | rfl | assumption | (simp only [rsD]; first | omega | assumption))) only [bm, hm, hlw, Nat.reduceAdd, Nat.reduceMul, Nat.reduceLT, Int.reduceToNat, Int.reduceAdd, Int.reduceSub, Int.reduceMul, rsU, rsC]
  refine Ok.step (lbegin_ok s2.p (s2.few.far s2.p.p.mi.ok (by omega)) (by rw [s2.ad.ep]; decide)) fun r ⟨k1, M3, S3, w3, p3, al3, c3, k3⟩ => ?_
  obtain ⟨q, σ3⟩ := r
  simp only at k1 p3
  subst k1
  simp (config := { maxSteps := 2000000 }) -implicitDefEqProofs (disch := (first | omega | rfl | assumption | (simp only [rsD]; first | omega | assumption))) only [Nat.reduceAdd, Nat.reduceMul, Nat.reduceLT, Int.reduceToNat, Int.reduceAdd, Int.reduceSub, Int.reduceMul, rsU, rsC]
  have s3 : SwSt σ3 lb pb mb M3 S3 w3 { L2 with H := [], W := L2.W ++ L2.H, ep := L2.ep + 1, last := 0 } .nil zs wd S2.room 2000 := ⟨p3, OwnS.nil _ _ _, (c3.few s2.few).le (by omega) (by omega), by have := c3.held; have := s2.held; have := al3.room; simp only; omega, fun i z hz' => s2.ob i z (List.getElem?_eq_some_iff.1 hz').1 hz', s2.non, by simp [s2.ad.W, s2.ad.H], by simp, s2.words, al3.gen0 s2.ad.gen, al3.room⟩
  refine Ok.bindS (Q := fun r => ∃ σ' M S w L a, r = .inl ([.sl a L.H.length, .i .i64 (((L.H.map L.len).sum : Nat) : Int)], σ') ∧ SwSt σ' lb pb mb M S w L a zs wd S2.room 3000) ?_ ?_ (fun r h => by obtain ⟨_, _, _, _, _, _, e, _⟩ := h; cases e)
  · refine Ok.count ms.length (fun k s => ∃ σ' M S w L a, s = ([.sl a L.H.length, .i .i64 (((L.H.map L.len).sum : Nat) : Int), .i .i64 (k : Int)], σ') ∧ SwSt σ' lb pb mb M S w L a zs wd S2.room (2000 + 12 * k)) ?_ ?_ ⟨σ3, M3, S3, w3, _, .nil, rfl, s3⟩
    · rintro k _ hk ⟨σ', M, S, w, L, a, rfl, s⟩
      refine (sw_mark s hk (by omega) (by omega) hz hmz hi him).mono ?_
      rintro _ ⟨σ4, M4, S4, w4, L4, a4, rfl, s4⟩
      exact ⟨σ4, M4, S4, w4, L4, a4, by rw [Int.natCast_add]; rfl, by rw [Int.natCast_add]; exact s4⟩
    · rintro _ ⟨σ', M, S, w, L, a, rfl, s⟩
      simp (config := { maxSteps := 2000000 }) -implicitDefEqProofs (disch := (first | omega | rfl | assumption | (simp only [rsD]; first | omega | assumption))) only [law15_LargeSweeps_L2, Nat.reduceAdd, Nat.reduceMul, Nat.reduceLT, Int.reduceToNat, Int.reduceAdd, Int.reduceSub, Int.reduceMul, rsU, rsC]
      exact Ok_some.2 ⟨σ', M, S, w, L, a, rfl, { s with few := s.few.le (by omega) (by omega) }⟩
  rintro _ ⟨σ4, M4, S4, w4, L4, a4, e, s4⟩
  simp only [Sum.inl.injEq] at e
  subst e
  simp (config := { maxSteps := 2000000 }) -implicitDefEqProofs (disch := (first | omega | rfl | assumption | (simp only [rsD]; first | omega | assumption))) only [Nat.reduceAdd, Nat.reduceMul, Nat.reduceLT, Int.reduceToNat, Int.reduceAdd, Int.reduceSub, Int.reduceMul, rsU, rsC]
  have hhw4 := s4.p.hw
  have hsum4 := s4.p.sum
  have hwb4 := s4.p.wb
  simp only [List.map_append, List.sum_append] at hsum4
  have hwords : L4.words = L2.words := s4.words.trans s2.words.symm
  have hroom4 : S4.room = S2.room := s4.room
  refine Ok.step (lsweep_ok s4.p (s4.few.far s4.p.p.mi.ok (by decide)) (fun e he => by rw [s4.gen e he]; decide)) fun r ⟨k5, M5, w5, p5, c5, kp5⟩ => ?_
  obtain ⟨q, σ5⟩ := r
  simp only at k5 p5 kp5
  subst k5
  simp (config := { maxSteps := 2000000 }) -implicitDefEqProofs (disch := (first | omega | rfl | assumption | (simp only [rsD]; first | omega | assumption))) only [Nat.reduceAdd, Nat.reduceMul, Nat.reduceLT, Int.reduceToNat, Int.reduceAdd, Int.reduceSub, Int.reduceMul, rsU, rsC]
  have few5 := c5.few s4.few
  have hlen5 : ∀ j ∈ L4.H, (LarS.len { L4 with W := [], words := L4.words - ((L4.W.map L4.len).sum : Nat), ob := fun j => if j ∈ L4.W then none else L4.ob j } j) = L4.len j := fun j hj => by unfold LarS.len; simp only; rw [if_neg (s4.p.dis j hj)]
  have hn4 := s4.len
  have hn5 : (L4.W.length : Int) = (zs.length : Int) - (L4.H.length : Int) := by omega
  refine Ok.step (told15_ok p5 (few5.far p5.p.mi.ok (by omega)) (by simp only [List.length_nil]; omega)) fun r ⟨ag, M6, u1, p6, og6, c6, kp6, ng6⟩ => ?_
  obtain ⟨q, σ6⟩ := r
  simp only [List.length_nil, Nat.add_zero, List.append_nil] at u1 p6 og6 c6 kp6
  subst u1
  have oa6 : OwnS σ6 3 1 a4 L4.H.length ((nums L4.H).map (AV.i .i64)) := (s4.oa.of kp5.next kp5.blk).of kp6.next kp6.blk
  have e1 : ((L4.W.length : Int) != (zs.length : Int) - (L4.H.length : Int)) = false := by rw [hn5]; simp
  simp (config := { maxSteps := 2000000 }) -implicitDefEqProofs (disch := (first | omega | rfl | assumption | (simp only [rsD]; first | omega | assumption))) only [e1, ef, Nat.reduceAdd, Nat.reduceMul, Nat.reduceLT, Int.reduceToNat, Int.reduceAdd, Int.reduceSub, Int.reduceMul, rsU, rsC]
  have sc := same_cells (σ := σ6) (a := ag) (b := a4) (l := nums L4.H) (by rw [nums_len]; exact og6.rd) (by rw [nums_len]; exact oa6.rd) (by rw [nums_len]; omega)
  rw [nums_len] at sc
  refine Ok.step sc fun r hr => ?_
  subst hr
  have lw6 := lwords_ok p6
  simp only at lw6
  have ew : L4.words - (((L4.W.map L4.len).sum : Nat) : Int) = (((L4.H.map L4.len).sum : Nat) : Int) := by omega
  rw [ew] at lw6
  have e2 : ((((L4.H.map L4.len).sum : Nat) : Int) != (((L4.H.map L4.len).sum : Nat) : Int)) = false := by simp
  obtain ⟨tb6, elm6, rest6, bm6, hm6⟩ := p6.p.mi.heldT
  have h6 : M6.met.held = M2.met.held - L2.words + (((L4.H.map L4.len).sum : Nat) : Int) := by
    have h1 := c6.held
    have h2 := c5.held
    have h3 := s4.held
    rw [h1, h2, h3, hh2, hroom4, hwords]; omega
  rw [h6] at hm6
  have e3 : ((M2.met.held - L2.words + (((L4.H.map L4.len).sum : Nat) : Int)) != M2.met.held - L2.words + (((L4.H.map L4.len).sum : Nat) : Int)) = false := by simp
  have tt := total_ok (σ := σ6) hi hz (by omega)
  obtain ⟨rt, et, hrt⟩ := tt
  subst hrt
  have e4 : ((((L4.W.map L4.len).sum : Nat) : Int) + (((L4.H.map L4.len).sum : Nat) : Int) == tot zs zs.length) = true := by
    have : (((L4.W.map L4.len).sum : Nat) : Int) + (((L4.H.map L4.len).sum : Nat) : Int) = tot zs zs.length := by rw [← s4.words]; omega
    simp [this]
  simp (config := { maxSteps := 2000000 }) -implicitDefEqProofs (disch := (first | omega | rfl | assumption | (simp only [rsD]; first | omega | assumption))) only [ef, lw6, e2, bm6, hm6, e3, et, e4, Nat.reduceAdd, Nat.reduceMul, Nat.reduceLT, Int.reduceToNat, Int.reduceAdd, Int.reduceSub, Int.reduceMul, rsU, rsC]
  refine Ok.bindS (Q := fun r => ∃ σ', r = .inl ([], σ')) ?_ ?_ (fun r h => by obtain ⟨_, e⟩ := h; cases e)
  · refine Ok.count L4.H.length (fun k s => ∃ σ' M, s = ([.i .i64 (k : Int)], σ') ∧ LarAt σ' lb pb mb M (S4.gaves L4.W) w5 { L4 with W := [], words := L4.words - ((L4.W.map L4.len).sum : Nat), ob := fun j => if j ∈ L4.W then none else L4.ob j } (SA.bk ag ++ SA.bk a4) [] ∧ OwnS σ' 3 1 a4 L4.H.length ((nums L4.H).map (AV.i .i64)) ∧ M.few (5000 + 3 * k) 300) ?_ ?_ ⟨σ6, M6, rfl, p6, oa6, (c6.few few5).le (by omega) (by omega)⟩
    · rintro k _ hk ⟨σ', M, rfl, p, oa, fw⟩
      have hv := List.getElem?_eq_getElem hk
      have hjm := List.getElem_mem hk
      generalize L4.H[k] = j at hv hjm
      have hjz := s4.hN j hjm
      have hzv := List.getElem?_eq_getElem hjz
      have hzj := hz _ (List.getElem_mem hjz)
      generalize zs[j] = z at hzv hzj
      have hoj := s4.ob j z hzv
      have hc : ((nums L4.H).map (AV.i .i64))[k]? = some (.i .i64 ((j : Int) + 1)) := by simp [nums, hv]
      obtain ⟨b1, o1, x1, l1⟩ := oa.rd.at1 hc
      have r1 : SA.ref a4 = some (b1, o1) := by rw [x1]; rfl
      obtain ⟨b2, o2, x2, l2⟩ := (hi O σ').at1 (show (zs.map (AV.i .u8))[j]? = some (.i .u8 z) by rw [List.getElem?_map, hzv]; rfl)
      have r2 : SA.ref sa = some (b2, o2) := by rw [x2]; rfl
      simp only [Nat.mul_one] at l1 l2
      have ti : ((j : Int) + 1 - 1).toNat = j := by omega
      simp (config := { maxSteps := 2000000 }) -implicitDefEqProofs (disch := (first | omega | rfl | assumption | (simp only [rsD]; first | omega | assumption))) only [law15_LargeSweeps_L3, r1, l1, r2, l2, ti, Nat.reduceAdd, Nat.reduceMul, Nat.reduceLT, Int.reduceToNat, Int.reduceAdd, Int.reduceSub, Int.reduceMul, rsU, rsC]
      have hlo : ((obOf z wd j).length : Int) = 1 + z := obOf_len hzj.1
      have rd := lread_ok p (fw.far p.p.mi.ok (by omega)) (i := j) (ws := obOf z wd j) (by simp only; rw [if_neg (s4.p.dis j hjm)]; exact hoj) (at_ := z) (by omega)
      rw [if_pos (by omega)] at rd
      have hget : (obOf z wd j).getD z.toNat 0 = IntKind.u64.wrap (wd + j) := by
        unfold obOf
        rw [List.getD_eq_getElem?_getD, List.getElem?_set, if_pos rfl, if_pos (by simp; omega)]; rfl
      rw [hget] at rd
      refine Ok.step rd fun r ⟨g1, M', p', c', k'⟩ => ?_
      obtain ⟨q, σ7⟩ := r
      simp only at g1 p' k'
      subst g1
      have oa7 := oa.of k'.next fun b hb => k'.blk b (by simp [hb])
      obtain ⟨b3, o3, x3, l3⟩ := oa7.rd.at1 hc
      rw [x1] at x3; cases x3
      simp only [Nat.mul_one] at l3
      have ej : (j : Int) + 1 - 1 = j := by omega
      have eq : (IntKind.u64.wrap (wd + j) != IntKind.u64.wrap (wd + j)) = false := by simp
      have e0 : ((0 : Int) != 0) = false := rfl
      simp (config := { maxSteps := 2000000 }) -implicitDefEqProofs (disch := (first | omega | rfl | assumption | (simp only [rsD]; first | omega | assumption))) only [r1, l3, ej, eq, e0, ef, Nat.reduceAdd, Nat.reduceMul, Nat.reduceLT, Int.reduceToNat, Int.reduceAdd, Int.reduceSub, Int.reduceMul, rsU, rsC]
      exact Ok_some.2 ⟨σ7, M', by rw [Int.natCast_add]; rfl, p', oa7, (c'.few fw).le (by omega) (by omega)⟩
    · rintro _ ⟨σ', M, rfl, p, oa, fw⟩
      simp (config := { maxSteps := 2000000 }) -implicitDefEqProofs (disch := (first | omega | rfl | assumption | (simp only [rsD]; first | omega | assumption))) only [law15_LargeSweeps_L3, Nat.reduceAdd, Nat.reduceMul, Nat.reduceLT, Int.reduceToNat, Int.reduceAdd, Int.reduceSub, Int.reduceMul, rsU, rsC]
      exact Ok_some.2 ⟨σ', rfl⟩
  · rintro _ ⟨σ', e⟩
    simp only [Sum.inl.injEq] at e
    subst e
    simp (config := { maxSteps := 2000000 }) -implicitDefEqProofs (disch := (first | omega | rfl | assumption | (simp only [rsD]; first | omega | assumption))) only [Nat.reduceAdd, Nat.reduceMul, Nat.reduceLT, Int.reduceToNat, Int.reduceAdd, Int.reduceSub, Int.reduceMul, rsU, rsC]
    exact Ok_some.2 rfl
end Go.Abs.Try
