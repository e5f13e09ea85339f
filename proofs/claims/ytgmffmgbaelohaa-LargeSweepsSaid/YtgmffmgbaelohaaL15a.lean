/-
  LargeGreys: the statement's function answers true. No conditions.
-/
import Derived.Test.YtgmffmgbaelohaaM15e
import Derived.Test.YtgmffmgbaelohaaAbsArgs
set_option linter.unusedVariables false
set_option linter.unusedSimpArgs false
set_option linter.constructorNameAsVariable false
set_option linter.unusedSimpArgs false
set_option linter.unusedVariables false
set_option linter.unusedSectionVars false
set_option maxHeartbeats 1000000
namespace Go.Abs.Try
open Go Go.Abs
variable {O : Type}

/-- the page's example, reckoned -/
theorem awake15 : ∃ σ : AH O, law15_awake (O := O) [] startH = some (.b true, σ) := by
  have h : (law15_awake (O := O) [] startH).map (fun r => r.1) = some (.b true) := by kernel_rfl
  obtain ⟨⟨q, σ⟩, e, h⟩ := Option.map_eq_some_iff.1 h
  simp only at h
  subst h
  exact ⟨σ, e⟩
/-- one element more -/
theorem grow1 {σ : AH O} {el : TypeId} {a : SA} {n : Nat} {cs : List AV} {v : AV} (ho : OwnS σ el 1 a n cs) :
    Ok (((σ.bump 2).put σ.next (.cells true el [v])).appSl (σ.next + 1) el 1 a n 1 [v]) fun r => ∃ a', r.1 = .sl a' (n + 1) ∧ OwnS r.2 el 1 a' (n + 1) (cs ++ [v]) ∧ Chg (SA.bk a) σ r.2 ∧ ∀ b ∈ SA.bk a', σ.next ≤ b ∧ b < r.2.next := by
  have hlt := ho.lt
  generalize hσ : (σ.bump 2).put σ.next (.cells true el [v]) = σ1
  have n1 : σ1.next = σ.next + 2 := by rw [← hσ]; rfl
  have b1 : ∀ b, b < σ.next → σ1.blk b = σ.blk b := fun b hb => by rw [← hσ, s_bn (by omega)]; rfl
  clear hσ
  have ho1 : OwnS σ1 el 1 a n cs := ho.of (by omega) fun b hb => b1 b (hlt b hb)
  refine (app_ok (nid := σ.next + 1) ho1 (fun hm => by have := hlt _ hm; omega) (by omega) (show ([v] : List AV).length = 1 * 1 from rfl)).mono fun r ⟨a', g1, g2, g3, g4, g5⟩ => ⟨a', g1, g2, ⟨by omega, fun b hb hm => (g4 b (by omega) hm).trans (b1 b hb)⟩, fun b hb => by have := g5 b hb; omega⟩
/-- two slices of numbers that are the same -/
theorem same_cells {σ : AH O} {a b : SA} {l : List Int} (ha : Rd σ 1 a l.length (l.map (AV.i .i64))) (hb : Rd σ 1 b l.length (l.map (AV.i .i64))) (hn : l.length ≤ 1000000) : Ok (haymowref02_Same [.sl a l.length, .sl b l.length] σ) fun r => r = (.b true, σ) := by
  have q0 : ((l.length : Int) != (l.length : Int)) = false := by simp
  simp (config := { maxSteps := 2000000 }) -implicitDefEqProofs (disch := (first | omega | rfl | assumption | (simp only [rsD]; first | omega | assumption))) only [haymowref02_Same, haymowref02_Same_c, q0, Nat.reduceAdd, Nat.reduceMul, Nat.reduceLT, Int.reduceToNat, Int.reduceAdd, Int.reduceSub, Int.reduceMul, rsU, rsC]
  refine Ok.bindS (Q := fun r => r = .inl ([], σ)) ?_ ?_ (fun r h => by cases h)
  · refine Ok.count l.length (fun k s => s = ([.i .i64 (k : Int)], σ)) ?_ ?_ rfl
    · rintro k s hk rfl
      have hv := List.getElem?_eq_getElem hk
      have hc : (l.map (AV.i .i64))[k]? = some (.i .i64 l[k]) := by rw [List.getElem?_map, hv]; rfl
      obtain ⟨b1, o1, e1, l1⟩ := ha.at1 hc
      obtain ⟨b2, o2, e2, l2⟩ := hb.at1 hc
      have r1 : SA.ref a = some (b1, o1) := by rw [e1]; rfl
      have r2 : SA.ref b = some (b2, o2) := by rw [e2]; rfl
      simp only [Nat.mul_one] at l1 l2
      have q1 : (l[k] != l[k]) = false := by simp
      simp (config := { maxSteps := 2000000 }) -implicitDefEqProofs (disch := (first | omega | rfl | assumption | (simp only [rsD]; first | omega | assumption))) only [haymowref02_Same_L1, r1, r2, l1, l2, q1, Nat.reduceAdd, Nat.reduceMul, Nat.reduceLT, Int.reduceToNat, Int.reduceAdd, Int.reduceSub, Int.reduceMul, rsU, rsC]
      exact Ok_some.2 (by simp)
    · rintro s rfl
      simp (config := { maxSteps := 2000000 }) -implicitDefEqProofs (disch := (first | omega | rfl | assumption | (simp only [rsD]; first | omega | assumption))) only [haymowref02_Same_L1, Nat.reduceAdd, Nat.reduceMul, Nat.reduceLT, Int.reduceToNat, Int.reduceAdd, Int.reduceSub, Int.reduceMul, rsU, rsC]
      exact Ok_some.2 rfl
  · rintro _ h
    cases h
    exact Ok_some.2 rfl

/-! ### One contract for each of Mark and Grey -/
def LarS.mk1 (L : LarS) (i : Nat) : LarS := if i ∈ L.H then L else { L with H := L.H ++ [i], W := L.W.filter (fun j => j != i) }
theorem mk1_old {L : LarS} {i : Nat} (h : i ∈ L.H) : L.mk1 i = L := if_pos h
theorem mk1_new {L : LarS} {i : Nat} (h : i ∉ L.H) : L.mk1 i = { L with H := L.H ++ [i], W := L.W.filter (fun j => j != i) } := if_neg h
theorem mk1_ob (L : LarS) (i : Nat) : (L.mk1 i).ob = L.ob := by unfold LarS.mk1; split <;> rfl
theorem mk1_last (L : LarS) (i : Nat) : (L.mk1 i).last = L.last := by unfold LarS.mk1; split <;> rfl
def LarS.gr1 (L : LarS) (t : Nat) : LarS := if t < L.H.length then { L with last := (pid L.H (t + 1) : Int) } else L
section
variable {σ : AH O} {lb pb mb : Nat} {M : MemS} {S : PoolS} {w : List Int} {L : LarS} {X : List Nat} {Y : List Int} (h : LarAt σ lb pb mb M S w L X Y) (hf : M.far 1000)
include h hf
theorem lmark_any {i : Nat} (ho : L.ob i ≠ none) :
    Ok (large_Large__Mark [.p (some (.n lb, 0)), .i .i64 ((i : Int) + 1)] σ) fun r => r.1 = .tup [.b (!decide (i ∈ L.H)), .i .i64 0] ∧ ∃ M' S' w', LarAt r.2 lb pb mb M' S' w' (L.mk1 i) X Y ∧ Alike S S' ∧ Beh Y M M' 12 0 0 ∧ Keep X σ r.2 := by
  by_cases hi : i ∈ L.H
  · rw [mk1_old hi, decide_eq_true hi]
    exact (lmark_old h hf hi).mono fun r ⟨g1, M', g2, g3, g4⟩ => ⟨g1, M', S, w, g2, Alike.refl S, g3.as (by decide) rfl rfl, g4⟩
  · rw [mk1_new hi, decide_eq_false hi]
    cases hw : L.ob i with
    | none => exact absurd hw ho
    | some ws => exact lmark_ok h hf hw hi
theorem lgrey_any {t : Nat} (ht : t ≤ L.H.length) (hl : L.last = (pid L.H t : Int)) :
    Ok (large_Large__Grey [.p (some (.n lb, 0))] σ) fun r => r.1 = .tup [.i .i64 (if t < L.H.length then (pid L.H (t + 1) : Int) else 0), .b (decide (t < L.H.length))] ∧ ∃ M', LarAt r.2 lb pb mb M' S w (L.gr1 t) X Y ∧ Beh Y M M' 1 0 0 ∧ Keep X σ r.2 := by
  unfold LarS.gr1
  by_cases hi : t < L.H.length
  · rw [if_pos hi, if_pos hi, decide_eq_true hi]
    exact lgrey_ok h hf hi hl
  · have e : t = L.H.length := by omega
    subst e
    rw [if_neg hi, if_neg hi, decide_eq_false hi]
    exact lgrey_no h hf hl
end

/-! ### The law -/
/-- a memory that has seen little -/
def MemS.few (M : MemS) (k c : Int) : Prop := M.met.r + M.met.w ≤ k ∧ M.count ≤ c
theorem Beh.few {Y : List Int} {M M' : MemS} {d a n k c : Int} (h : Beh Y M M' d a n) (g : M.few k c) : M'.few (k + d) (c + n) := ⟨by have := h.k; have := g.1; omega, by have := h.count; have := g.2; omega⟩
theorem MemS.few.le {M : MemS} {k c k' c' : Int} (h : M.few k c) (h1 : k ≤ k') (h2 : c ≤ c') : M.few k' c' := ⟨by have := h.1; omega, by have := h.2; omega⟩
theorem MemS.few.far {M : MemS} {k c d : Int} (h : M.few k c) (hok : M.ok) (hk : k + d < 85070591730234615865843651857942052864) : M.far d := by
  have h1 := hok.met.r
  have h2 := hok.met.w
  have := h.1
  exact ⟨by omega, by omega⟩
/-- made15: a memory, large objects -/
theorem made15 {σ : AH O} : Ok (law15_made [] σ) fun r => ∃ mb lb pb M, r.1 = .tup [.p (some (.n mb, 0)), .p (some (.n lb, 0)), .b true] ∧ LarAt r.2 lb pb mb M ⟨0, 5, 0, [], [], 0⟩ [] ⟨[], [], 0, 0, 0, fun _ => none⟩ [] [] ∧ M.few 0 1 ∧ M.met.held = 0 := by
  simp (config := { maxSteps := 2000000 }) -implicitDefEqProofs (disch := (first | omega | rfl | assumption | (simp only [rsD]; first | omega | assumption))) only [law15_made, law15_made_c, Nat.reduceAdd, Nat.reduceMul, Nat.reduceLT, Int.reduceToNat, Int.reduceAdd, Int.reduceSub, Int.reduceMul, rsU, rsC]
  refine Ok.step (newX (X := []) (by simp)) fun r ⟨g1, g2, g3⟩ => ?_
  obtain ⟨q, σ1⟩ := r
  simp only at g1 g2
  subst g1
  simp (config := { maxSteps := 2000000 }) -implicitDefEqProofs (disch := (first | omega | rfl | assumption | (simp only [rsD]; first | omega | assumption))) only [Nat.reduceAdd, Nat.reduceMul, Nat.reduceLT, Int.reduceToNat, Int.reduceAdd, Int.reduceSub, Int.reduceMul, rsU, rsC]
  refine Ok.step (lnew_ok (Y := []) g2 ⟨by decide, by decide⟩ (by decide) (by simp)) fun r ⟨lb, pb, M', S, k1, k2, k3, k4, k5, k6⟩ => ?_
  obtain ⟨q, σ2⟩ := r
  simp only at k1 k2
  subst k1
  have e0 : ((0 : Int) == 0) = true := rfl
  simp (config := { maxSteps := 2000000 }) -implicitDefEqProofs (disch := (first | omega | rfl | assumption | (simp only [rsD]; first | omega | assumption))) only [e0, Nat.reduceAdd, Nat.reduceMul, Nat.reduceLT, Int.reduceToNat, Int.reduceAdd, Int.reduceSub, Int.reduceMul, rsU, rsC]
  have hff : ff MemS.new.sp = 0 := rfl
  rw [hff] at k3
  subst k3
  refine Ok_some.2 ⟨σ.next, lb, pb, M', rfl, k2, ?_, ?_⟩
  · have := k5.few (k := 0) (c := 0) ⟨by decide, by decide⟩
    exact this.le (by decide) (by decide)
  · have := k5.held
    simp [MemS.new, Met.zero] at this
    exact this
/-- so many were added, each of one word or more -/
structure Addd (S : PoolS) (L : LarS) (k : Nat) : Prop where
  free : S.free = []
  len : S.E.length = k
  room : S.room ≤ 80
  H : L.H = List.range k
  W : L.W = []
  last : L.last = 0
  ep : L.ep = 0
  gen : ∀ e ∈ S.E, e.gen = 0
theorem Addd.more {S : PoolS} {L : LarS} {k : Nat} (h : Addd S L k) (hk : k ≤ 40) : S.more ≤ 80 := by
  have := h.len
  have := h.room
  unfold PoolS.more; split <;> omega
theorem Addd.took {S S' : PoolS} {L : LarS} {k : Nat} {n : Int} {v : List Int} (h : Addd S L k) (hk : k ≤ 40) (ha : Alike S.took.2 S') : S.took.1 = k ∧ Addd S' { L with H := L.H ++ [S.took.1], words := L.words + n, ob := fun j => if j = S.took.1 then some v else L.ob j } (k + 1) := by
  have e0 : S.took = (S.E.length, { S with room := S.more, E := S.E ++ [PE.fresh S.words], taken := S.taken + 1 }) := by unfold PoolS.took; rw [h.free]
  have hm := h.more hk
  rw [e0] at ha ⊢
  refine ⟨h.len, ?_⟩
  refine ⟨ha.free.trans h.free, ?_, by rw [ha.room]; exact hm, by simp only; rw [h.H, h.len, List.range_succ], h.W, h.last, h.ep, fun e he => ?_⟩
  · rw [ha.len]; simp [h.len]
  · obtain ⟨i, hi⟩ := List.getElem?_of_mem he
    obtain ⟨e1, h1, _, h3⟩ := ha.back hi
    rw [h3]
    have h1 : (S.E ++ [PE.fresh S.words])[i]? = some e1 := h1
    have := List.mem_of_getElem? h1
    rcases List.mem_append.1 this with g | g
    · exact h.gen _ g
    · simp at g; subst g; rfl
def nums (C : List Nat) : List Int := C.map fun (i : Nat) => (i : Int) + 1
theorem nums_len (C : List Nat) : (nums C).length = C.length := by simp [nums]
theorem nums_snoc (C : List Nat) (i : Nat) : (nums (C ++ [i])).map (AV.i .i64) = (nums C).map (AV.i .i64) ++ [.i .i64 ((i : Int) + 1)] := by simp [nums]
/-- what was marked, what was told -/
structure GrSt (σ : AH O) (lb pb mb : Nat) (M : MemS) (S : PoolS) (w : List Int) (L : LarS) (a g : SA) (t N : Nat) (k : Int) : Prop where
  p : LarAt σ lb pb mb M S w L (SA.bk a ++ SA.bk g) []
  oa : OwnS σ 3 1 a L.H.length ((nums L.H).map (AV.i .i64))
  og : OwnS σ 3 1 g t ((nums (L.H.take t)).map (AV.i .i64))
  ab : ∀ b ∈ SA.bk a, b ∉ SA.bk g
  ht : t ≤ L.H.length
  last : L.last = (pid L.H t : Int)
  few : M.few k 100
  ob : ∀ i, i < N → L.ob i ≠ none
  hN : ∀ i ∈ L.H, i < N
theorem pid_append {H : List Nat} {i t : Nat} (ht : t ≤ H.length) : pid (H ++ [i]) t = pid H t := by
  cases t with
  | zero => rfl
  | succ t =>
    show (match (H ++ [i])[t]? with | some i => i + 1 | none => 0) = (match H[t]? with | some i => i + 1 | none => 0)
    rw [List.getElem?_append_left (by omega)]
/-- one is marked -/
theorem gr_mark {σ : AH O} {lb pb mb : Nat} {M : MemS} {S : PoolS} {w : List Int} {L : LarS} {a g : SA} {t N : Nat} {k : Int} (s : GrSt σ lb pb mb M S w L a g t N k) (hk : k ≤ 1000000) (hk0 : 0 ≤ k) {i : Nat} (hi : i < N) (hN : N ≤ 20) {R : Type} {f : AV × AH O → Option R} {Q : R → Prop}
    (hq : ∀ (b : Bool) (σ1 σ2 : AH O) (M' : MemS) (S' : PoolS) (w' : List Int) (L' : LarS) (a' : SA), GrSt σ2 lb pb mb M' S' w' L' a' g t N (k + 12) →
      (b = true → ∃ x, ((σ1.bump 2).put σ1.next (.cells true 3 [.i .i64 ((i : Int) + 1)])).appSl (σ1.next + 1) 3 1 a L.H.length 1 [.i .i64 ((i : Int) + 1)] = some (.sl a' L'.H.length, x) ∧ x = σ2) → (b = false → σ1 = σ2 ∧ a' = a ∧ L' = L) → Ok (f (.tup [.b b, .i .i64 0], σ1)) Q) :
    Ok ((large_Large__Mark [.p (some (.n lb, 0)), .i .i64 ((i : Int) + 1)] σ).bind f) Q := by
  have hf : M.far 1000 := s.few.far s.p.p.mi.ok (by omega)
  refine Ok.step (lmark_any s.p hf (s.ob i hi)) fun r ⟨g1, M1, S1, w1, g2, g3, g4, g5⟩ => ?_
  obtain ⟨q, σ1⟩ := r
  simp only at g1 g2 g5
  subst g1
  have oa1 := s.oa.of g5.next fun b hb => g5.blk b (by simp [hb])
  have og1 := s.og.of g5.next fun b hb => g5.blk b (by simp [hb])
  have few1 : M1.few (k + 12) 100 := (g4.few s.few).le (by omega) (by omega)
  by_cases him : i ∈ L.H
  · rw [mk1_old him] at g2
    refine hq _ σ1 σ1 M1 S1 w1 L a ⟨g2, oa1, og1, s.ab, s.ht, s.last, few1, s.ob, s.hN⟩ (fun e => by simp [him] at e) (fun _ => ⟨rfl, rfl, rfl⟩)
  · obtain ⟨⟨q, σ2⟩, e, a', h1, h2, h3, h4⟩ := grow1 (v := .i .i64 ((i : Int) + 1)) oa1
    simp only at h1 h2 h3 h4
    subst h1
    rw [mk1_new him] at g2
    have hlg : ∀ b ∈ SA.bk g, b < σ1.next := fun b hb => og1.lt b hb
    refine hq _ σ1 σ2 M1 S1 w1 _ a' ⟨g2.turn h3 (fun b hb => .inl (by simp [hb])) (fun b hb => ?_), ?_, ?_, fun b hb hm => ?_, ?_, ?_, few1, s.ob, fun j hj => ?_⟩ (fun _ => ⟨σ2, by rw [e]; simp, rfl⟩) (fun e => by simp [him] at e)
    · rcases List.mem_append.1 hb with hb | hb
      · exact .inr (h4 b hb)
      · exact .inl (by simp [hb])
    · simp only [List.length_append, List.length_cons, List.length_nil, nums_snoc]; exact h2
    · rw [List.take_append_of_le_length s.ht]
      exact og1.of h3.next fun b hb => h3.blk b (hlg b hb) fun hm => s.ab b hm hb
    · have := h4 b hb; have := hlg b hm; omega
    · simp only [List.length_append]; have := s.ht; omega
    · simp only; rw [pid_append s.ht]; exact s.last
    · rcases List.mem_append.1 hj with hj | hj
      · exact s.hN j hj
      · simp at hj; subst hj; exact hi
/-- one is told -/
theorem gr_grey {σ : AH O} {lb pb mb : Nat} {M : MemS} {S : PoolS} {w : List Int} {L : LarS} {a g : SA} {t N : Nat} {k : Int} (s : GrSt σ lb pb mb M S w L a g t N k) (hk : k ≤ 1000000) (hk0 : 0 ≤ k) {R : Type} {f : AV × AH O → Option R} {Q : R → Prop}
    (hq : ∀ (b : Bool) (n : Int) (σ1 σ2 : AH O) (M' : MemS) (S' : PoolS) (w' : List Int) (L' : LarS) (g' : SA) (t' : Nat), b = decide (t < L.H.length) → GrSt σ2 lb pb mb M' S' w' L' a g' t' N (k + 1) → L'.H = L.H → t' = min (t + 1) L.H.length →
      (b = true → ∃ x, ((σ1.bump 2).put σ1.next (.cells true 3 [.i .i64 n])).appSl (σ1.next + 1) 3 1 g t 1 [.i .i64 n] = some (.sl g' t', x) ∧ x = σ2) → (b = false → σ1 = σ2 ∧ g' = g ∧ t' = t ∧ t = L.H.length) → Ok (f (.tup [.i .i64 n, .b b], σ1)) Q) :
    Ok ((large_Large__Grey [.p (some (.n lb, 0))] σ).bind f) Q := by
  have hf : M.far 1000 := s.few.far s.p.p.mi.ok (by omega)
  refine Ok.step (lgrey_any s.p hf s.ht s.last) fun r ⟨g1, M1, g2, g4, g5⟩ => ?_
  obtain ⟨q, σ1⟩ := r
  simp only at g1 g2 g5
  subst g1
  have oa1 := s.oa.of g5.next fun b hb => g5.blk b (by simp [hb])
  have og1 := s.og.of g5.next fun b hb => g5.blk b (by simp [hb])
  have few1 : M1.few (k + 1) 100 := (g4.few s.few).le (by omega) (by omega)
  by_cases htl : t < L.H.length
  · have hi := List.getElem?_eq_getElem htl
    have hp : pid L.H (t + 1) = L.H[t] + 1 := pid_some hi
    simp only [LarS.gr1, if_pos htl] at g2
    obtain ⟨⟨q, σ2⟩, e, g', h1, h2, h3, h4⟩ := grow1 (v := .i .i64 (pid L.H (t + 1) : Int)) og1
    simp only at h1 h2 h3 h4
    subst h1
    have hla : ∀ b ∈ SA.bk a, b < σ1.next := fun b hb => oa1.lt b hb
    refine hq _ _ σ1 σ2 M1 S w _ g' (t + 1) rfl ⟨g2.turn h3 (fun b hb => .inl (by simp [hb])) (fun b hb => ?_), ?_, ?_, fun b hb hm => ?_, by simp only; omega, rfl, few1, s.ob, s.hN⟩ rfl (by omega) (fun _ => ⟨σ2, by rw [if_pos htl]; exact e, rfl⟩) (fun e => by simp at e; omega)
    · rcases List.mem_append.1 hb with hb | hb
      · exact .inl (by simp [hb])
      · exact .inr (h4 b hb)
    · exact oa1.of h3.next fun b hb => h3.blk b (hla b hb) fun hm => s.ab b hb hm
    · have et : L.H.take (t + 1) = L.H.take t ++ [L.H[t]] := List.take_succ_eq_append_getElem htl
      simp only
      rw [et, nums_snoc]
      rw [hp, Int.natCast_add] at h2
      exact h2
    · have := h4 b hm; have := hla b hb; omega
  · have ht := s.ht
    simp only [LarS.gr1, if_neg htl] at g2
    exact hq _ _ σ1 σ1 M1 S w L g t rfl ⟨g2, oa1, og1, s.ab, s.ht, s.last, few1, s.ob, s.hN⟩ rfl (by omega) (fun e => by simp at e; omega) (fun _ => ⟨rfl, rfl, rfl, by omega⟩)
theorem largeGreys_ok {n0 n2 : Int} {sa : SA} {zs : List Int} (h0 : 0 ≤ n0 ∧ n0 < 256) (h2 : 0 ≤ n2 ∧ n2 < 256) (hi : Imm 1 sa zs.length (zs.map (AV.i .u8))) (hz : ∀ z ∈ zs, 0 ≤ z ∧ z < 256) :
    Ok (law15_LargeGreys (O := O) [.i .u8 n0, .sl sa zs.length, .i .u8 n2] startH) fun r => r.1 = .b true := by
  obtain ⟨σ0, ea⟩ := awake15 (O := O)
  simp (config := { maxSteps := 2000000 }) -implicitDefEqProofs (disch := (first | omega | rfl | assumption | (simp only [rsD]; first | omega | assumption))) only [law15_LargeGreys, law15_LargeGreys_c, ea, Nat.reduceAdd, Nat.reduceMul, Nat.reduceLT, Int.reduceToNat, Int.reduceAdd, Int.reduceSub, Int.reduceMul, rsU, rsC]
  by_cases hbig : (zs.length : Int) > 60
  · simp (config := { maxSteps := 2000000 }) -implicitDefEqProofs (disch := (first | omega | rfl | assumption | (simp only [rsD]; first | omega | assumption))) only [Nat.reduceAdd, Nat.reduceMul, Nat.reduceLT, Int.reduceToNat, Int.reduceAdd, Int.reduceSub, Int.reduceMul, rsU, rsC]
    exact Ok_some.2 rfl
  simp (config := { maxSteps := 2000000 }) -implicitDefEqProofs (disch := (first | omega | rfl | assumption | (simp only [rsD]; first | omega | assumption))) only [lnew_nil, Nat.reduceAdd, Nat.reduceMul, Nat.reduceLT, Int.reduceToNat, Int.reduceAdd, Int.reduceSub, Int.reduceMul, rsU, rsC]
  refine Ok.step made15 fun r ⟨mb, lb, pb, M1, g1, g2, g3, g4⟩ => ?_
  obtain ⟨q, σ1⟩ := r
  simp only at g1 g2
  subst g1
  obtain ⟨N, hN, hN1⟩ : ∃ N : Nat, IntKind.i64.wrap (1 + Int.tmod n0 20) = (N : Int) ∧ 1 ≤ N ∧ N ≤ 20 := ⟨(1 + n0 % 20).toNat, by rw [s_tmod h0.1, s_i64 (by omega)]; omega, by omega, by omega⟩
  obtain ⟨V, hV, hV1⟩ : ∃ V : Int, IntKind.i64.wrap (1 + Int.tmod n2 4) = V ∧ 1 ≤ V ∧ V ≤ 4 := ⟨1 + n2 % 4, by rw [s_tmod h2.1, s_i64 (by omega)], by omega, by omega⟩
  have e1 : ((1 : Int) != 1) = false := rfl
  have ef : (false == false) = true := rfl
  simp (config := { maxSteps := 2000000 }) -implicitDefEqProofs (disch := (first | omega | rfl | assumption | (simp only [rsD]; first | omega | assumption))) only [e1, ef, hN, Nat.reduceAdd, Nat.reduceMul, Nat.reduceLT, Int.reduceToNat, Int.reduceAdd, Int.reduceSub, Int.reduceMul, rsU, rsC]
  refine Ok.step (Ok.count (Q := fun r => ∃ σ' M S w L, r = ([], σ') ∧ LarAt σ' lb pb mb M S w L [] [] ∧ Addd S L N ∧ (∀ i, i < N → L.ob i ≠ none) ∧ M.few 480 30) N
    (fun k s => ∃ σ' M S w L, s = ([.i .i64 (k : Int)], σ') ∧ LarAt σ' lb pb mb M S w L [] [] ∧ Addd S L k ∧ (∀ i, i < k → L.ob i ≠ none) ∧ M.few (24 * k) (1 + k)) ?_ ?_ ⟨σ1, M1, _, _, _, rfl, g2, ⟨rfl, rfl, by decide, rfl, rfl, rfl, rfl, fun e he => by simp at he⟩, fun i hi => by omega, g3.le (by omega) (by omega)⟩) ?_
  · rintro k _ hk ⟨σ', M, S, w, L, rfl, p, ad, ob, fw⟩
    have hm := ad.more (k := k) (by omega)
    simp (config := { maxSteps := 2000000 }) -implicitDefEqProofs (disch := (first | omega | rfl | assumption | (simp only [rsD]; first | omega | assumption))) only [law15_LargeGreys_L1, hN, Nat.reduceAdd, Nat.reduceMul, Nat.reduceLT, Int.reduceToNat, Int.reduceAdd, Int.reduceSub, Int.reduceMul, rsU, rsC]
    refine Ok.step (ladd_ok p (fw.far p.p.mi.ok (by omega)) (n := 1) (by decide) (by decide) (by have := fw.2; omega) (by omega)) fun r ⟨k1, k2, M2, S2, w2, p2, al, c2, k3⟩ => ?_
    obtain ⟨q, σ2⟩ := r
    simp only at k1 p2 k3
    subst k1
    simp (config := { maxSteps := 2000000 }) -implicitDefEqProofs (disch := (first | omega | rfl | assumption | (simp only [rsD]; first | omega | assumption))) only [Nat.reduceAdd, Nat.reduceMul, Nat.reduceLT, Int.reduceToNat, Int.reduceAdd, Int.reduceSub, Int.reduceMul, rsU, rsC]
    obtain ⟨t1, t2⟩ := ad.took (n := 1) (v := List.replicate (Int.toNat 1) 0) (by omega) al
    refine Ok_some.2 ⟨σ2, M2, S2, w2, _, by rw [Int.natCast_add]; rfl, p2, t2, fun i hi => ?_, (c2.few fw).le (by omega) (by omega)⟩
    simp only
    by_cases hik : i = S.took.1
    · rw [if_pos hik]; simp
    · rw [if_neg hik]; exact ob i (by omega)
  · rintro _ ⟨σ', M, S, w, L, rfl, p, ad, ob, fw⟩
    simp (config := { maxSteps := 2000000 }) -implicitDefEqProofs (disch := (first | omega | rfl | assumption | (simp only [rsD]; first | omega | assumption))) only [law15_LargeGreys_L1, hN, Nat.reduceAdd, Nat.reduceMul, Nat.reduceLT, Int.reduceToNat, Int.reduceAdd, Int.reduceSub, Int.reduceMul, rsU, rsC]
    exact Ok_some.2 ⟨σ', M, S, w, L, rfl, p, ad, ob, fw.le (by omega) (by omega)⟩
  rintro _ ⟨σ2, M2, S2, w2, L2, rfl, p2, ad2, ob2, fw2⟩
  simp (config := { maxSteps := 2000000 }) -implicitDefEqProofs (disch := (first | omega | rfl | assumption | (simp only [rsD]; first | omega | assumption))) only [Nat.reduceAdd, Nat.reduceMul, Nat.reduceLT, Int.reduceToNat, Int.reduceAdd, Int.reduceSub, Int.reduceMul, rsU, rsC]
  refine Ok.step (lbegin_ok p2 (fw2.far p2.p.mi.ok (by decide)) (by rw [ad2.ep]; decide)) fun r ⟨k1, M3, S3, w3, p3, al3, c3, k3⟩ => ?_
  obtain ⟨q, σ3⟩ := r
  simp only at k1 p3
  subst k1
  simp (config := { maxSteps := 2000000 }) -implicitDefEqProofs (disch := (first | omega | rfl | assumption | (simp only [rsD]; first | omega | assumption))) only [Nat.reduceAdd, Nat.reduceMul, Nat.reduceLT, Int.reduceToNat, Int.reduceAdd, Int.reduceSub, Int.reduceMul, rsU, rsC]
  have fw3 : M3.few 600 100 := (c3.few fw2).le (by decide) (by decide)
  have s3 : GrSt σ3 lb pb mb M3 S3 w3 { L2 with H := [], W := L2.W ++ L2.H, ep := L2.ep + 1, last := 0 } .nil .nil 0 N 600 := ⟨p3, OwnS.nil _ _ _, OwnS.nil _ _ _, by simp [SA.bk], by simp, rfl, fw3, ob2, by simp⟩
  refine Ok.step (Ok.count (Q := fun r => ∃ σ' M S w L a g t, r = ([.sl a L.H.length, .sl g t], σ') ∧ GrSt σ' lb pb mb M S w L a g t N 2000) zs.length
    (fun k s => ∃ σ' M S w L a g t, s = ([.sl a L.H.length, .sl g t, .i .i64 (k : Int)], σ') ∧ GrSt σ' lb pb mb M S w L a g t N (600 + 13 * k)) ?_ ?_ ⟨σ3, M3, S3, w3, _, .nil, .nil, 0, rfl, s3⟩) ?_
  · rintro k _ hk ⟨σ', M, S, w, L, a, g, t, rfl, s⟩
    have hv := List.getElem?_eq_getElem hk
    have hzk := hz _ (List.mem_of_getElem? hv)
    have hc : (zs.map (AV.i .u8))[k]? = some (.i .u8 zs[k]) := by rw [List.getElem?_map, hv]; rfl
    obtain ⟨b1, o1, x1, l1⟩ := (hi O σ').at1 hc
    have r1 : SA.ref sa = some (b1, o1) := by rw [x1]; rfl
    simp only [Nat.mul_one] at l1
    generalize zs[k] = z at hzk l1
    have hm0 := Int.emod_nonneg z (show (N : Int) ≠ 0 by omega)
    have hm1 := Int.emod_lt_of_pos z (show (0 : Int) < N by omega)
    obtain ⟨i, hzi, hiN⟩ : ∃ i : Nat, IntKind.i64.wrap (1 + Int.tmod z (N : Int)) = (i : Int) + 1 ∧ i < N := ⟨(z % (N : Int)).toNat, by rw [s_tmod hzk.1, s_i64 (by omega)]; omega, by omega⟩
    have nz : ((N : Int) == 0) = false := beq_eq_false_iff_ne.2 (by omega)
    have hcl : L.H.length ≤ 699050 := by have := s.p.hw; omega
    simp (config := { maxSteps := 2000000 }) -implicitDefEqProofs (disch := (first | omega | rfl | assumption | (simp only [rsD]; first | omega | assumption))) only [law15_LargeGreys_L2, r1, l1, hN, hzi, nz, Nat.reduceAdd, Nat.reduceMul, Nat.reduceLT, Int.reduceToNat, Int.reduceAdd, Int.reduceSub, Int.reduceMul, rsU, rsC]
    refine gr_mark s (by omega) (by omega) hiN (by omega) fun b σa σb M' S' w' L' a' s' hb1 hb2 => ?_
    simp only
    simp (config := { maxSteps := 2000000 }) -implicitDefEqProofs (disch := (first | omega | rfl | assumption | (simp only [rsD]; first | omega | assumption))) only [Nat.reduceAdd, Nat.reduceMul, Nat.reduceLT, Int.reduceToNat, Int.reduceAdd, Int.reduceSub, Int.reduceMul, rsU, rsC]
    refine Ok.step (Q := fun r => r = ([.sl a' L'.H.length], σb)) ?_ ?_
    · cases b with
      | false =>
        obtain ⟨rfl, rfl, rfl⟩ := hb2 rfl
        simp (config := { maxSteps := 2000000 }) -implicitDefEqProofs (disch := (first | omega | rfl | assumption | (simp only [rsD]; first | omega | assumption))) only [Nat.reduceAdd, Nat.reduceMul, Nat.reduceLT, Int.reduceToNat, Int.reduceAdd, Int.reduceSub, Int.reduceMul, rsU, rsC]
        exact Ok_some.2 rfl
      | true =>
        obtain ⟨x, e, rfl⟩ := hb1 rfl
        simp (config := { maxSteps := 2000000 }) -implicitDefEqProofs (disch := (first | omega | rfl | assumption | (simp only [rsD]; first | omega | assumption))) only [e, Nat.reduceAdd, Nat.reduceMul, Nat.reduceLT, Int.reduceToNat, Int.reduceAdd, Int.reduceSub, Int.reduceMul, rsU, rsC]
        exact Ok_some.2 rfl
    rintro _ rfl
    have n4 : (V == 0) = false := beq_eq_false_iff_ne.2 (by omega)
    simp (config := { maxSteps := 2000000 }) -implicitDefEqProofs (disch := (first | omega | rfl | assumption | (simp only [rsD]; first | omega | assumption))) only [hV, n4, Nat.reduceAdd, Nat.reduceMul, Nat.reduceLT, Int.reduceToNat, Int.reduceAdd, Int.reduceSub, Int.reduceMul, rsU, rsC]
    refine Ok.step (Q := fun r => ∃ σ' M S w L'' g t, r = ([.sl g t], σ') ∧ GrSt σ' lb pb mb M S w L'' a' g t N (600 + 13 * (k + 1)) ∧ L''.H = L'.H) ?_ ?_
    · cases hcc : (Int.tmod (k : Int) V == 0) with
      | false =>
        simp (config := { maxSteps := 2000000 }) -implicitDefEqProofs (disch := (first | omega | rfl | assumption | (simp only [rsD]; first | omega | assumption))) only [hcc, Nat.reduceAdd, Nat.reduceMul, Nat.reduceLT, Int.reduceToNat, Int.reduceAdd, Int.reduceSub, Int.reduceMul, rsU, rsC]
        exact Ok_some.2 ⟨σb, M', S', w', L', g, t, rfl, { s' with few := s'.few.le (by omega) (by omega) }, rfl⟩
      | true =>
        simp (config := { maxSteps := 2000000 }) -implicitDefEqProofs (disch := (first | omega | rfl | assumption | (simp only [rsD]; first | omega | assumption))) only [hcc, Nat.reduceAdd, Nat.reduceMul, Nat.reduceLT, Int.reduceToNat, Int.reduceAdd, Int.reduceSub, Int.reduceMul, rsU, rsC]
        have htl : t ≤ 699050 := by have := s'.ht; have := s'.p.hw; omega
        refine gr_grey s' (by omega) (by omega) fun b n σc σd M5 S5 w5 L5 g5 t5 hbt s5 hH ht hb1 hb2 => ?_
        simp only
        cases b with
        | false =>
          obtain ⟨rfl, rfl, rfl, _⟩ := hb2 rfl
          simp (config := { maxSteps := 2000000 }) -implicitDefEqProofs (disch := (first | omega | rfl | assumption | (simp only [rsD]; first | omega | assumption))) only [Nat.reduceAdd, Nat.reduceMul, Nat.reduceLT, Int.reduceToNat, Int.reduceAdd, Int.reduceSub, Int.reduceMul, rsU, rsC]
          exact Ok_some.2 ⟨σc, M5, S5, w5, L5, g5, t5, rfl, { s5 with few := s5.few.le (by omega) (by omega) }, hH⟩
        | true =>
          obtain ⟨x, e, rfl⟩ := hb1 rfl
          simp (config := { maxSteps := 2000000 }) -implicitDefEqProofs (disch := (first | omega | rfl | assumption | (simp only [rsD]; first | omega | assumption))) only [e, Nat.reduceAdd, Nat.reduceMul, Nat.reduceLT, Int.reduceToNat, Int.reduceAdd, Int.reduceSub, Int.reduceMul, rsU, rsC]
          exact Ok_some.2 ⟨x, M5, S5, w5, L5, g5, t5, rfl, { s5 with few := s5.few.le (by omega) (by omega) }, hH⟩
    rintro _ ⟨σe, M6, S6, w6, L6, g6, t6, rfl, s6, hH6⟩
    simp (config := { maxSteps := 2000000 }) -implicitDefEqProofs (disch := (first | omega | rfl | assumption | (simp only [rsD]; first | omega | assumption))) only [Nat.reduceAdd, Nat.reduceMul, Nat.reduceLT, Int.reduceToNat, Int.reduceAdd, Int.reduceSub, Int.reduceMul, rsU, rsC]
    refine Ok_some.2 ⟨σe, M6, S6, w6, L6, a', g6, t6, by rw [hH6, Int.natCast_add]; rfl, by rw [Int.natCast_add]; exact s6⟩
  · rintro _ ⟨σ', M, S, w, L, a, g, t, rfl, s⟩
    simp (config := { maxSteps := 2000000 }) -implicitDefEqProofs (disch := (first | omega | rfl | assumption | (simp only [rsD]; first | omega | assumption))) only [law15_LargeGreys_L2, Nat.reduceAdd, Nat.reduceMul, Nat.reduceLT, Int.reduceToNat, Int.reduceAdd, Int.reduceSub, Int.reduceMul, rsU, rsC]
    exact Ok_some.2 ⟨σ', M, S, w, L, a, g, t, rfl, { s with few := s.few.le (by omega) (by omega) }⟩
  rintro _ ⟨σ4, M4, S4, w4, L4, a4, g4', t4, rfl, s4⟩
  simp (config := { maxSteps := 2000000 }) -implicitDefEqProofs (disch := (first | omega | rfl | assumption | (simp only [rsD]; first | omega | assumption))) only [Nat.reduceAdd, Nat.reduceMul, Nat.reduceLT, Int.reduceToNat, Int.reduceAdd, Int.reduceSub, Int.reduceMul, rsU, rsC]
  refine Ok.step (Ok.count (Q := fun r => ∃ σ' M S w L g, r = ([.sl g L4.H.length], σ') ∧ GrSt σ' lb pb mb M S w L a4 g L4.H.length N 3000 ∧ L.H = L4.H) (N + 1)
    (fun k s => ∃ σ' M S w L g t, s = ([.sl g t, .i .i64 (k : Int)], σ') ∧ GrSt σ' lb pb mb M S w L a4 g t N (2000 + k) ∧ L.H = L4.H ∧ (k ≤ t ∨ t = L4.H.length)) ?_ ?_ ⟨σ4, M4, S4, w4, L4, g4', t4, rfl, { s4 with few := s4.few.le (by omega) (by omega) }, rfl, .inl (by omega)⟩) ?_
  · rintro k _ hk ⟨σ', M, S, w, L, g, t, rfl, s, hH, hkt⟩
    have htl : t ≤ 699050 := by have := s.ht; have := s.p.hw; omega
    simp (config := { maxSteps := 2000000 }) -implicitDefEqProofs (disch := (first | omega | rfl | assumption | (simp only [rsD]; first | omega | assumption))) only [law15_LargeGreys_L3, hN, Nat.reduceAdd, Nat.reduceMul, Nat.reduceLT, Int.reduceToNat, Int.reduceAdd, Int.reduceSub, Int.reduceMul, rsU, rsC]
    refine gr_grey s (by omega) (by omega) fun b n σc σd M5 S5 w5 L5 g5 t5 hbt s5 hH5 ht hb1 hb2 => ?_
    simp only
    have hH6 := hH5.trans hH
    have hst := s.ht
    rw [hH] at hst ht
    cases b with
    | false =>
      obtain ⟨rfl, rfl, rfl, _⟩ := hb2 rfl
      simp (config := { maxSteps := 2000000 }) -implicitDefEqProofs (disch := (first | omega | rfl | assumption | (simp only [rsD]; first | omega | assumption))) only [Nat.reduceAdd, Nat.reduceMul, Nat.reduceLT, Int.reduceToNat, Int.reduceAdd, Int.reduceSub, Int.reduceMul, rsU, rsC]
      exact Ok_some.2 ⟨σc, M5, S5, w5, L5, g5, t5, by rw [Int.natCast_add]; rfl, by rw [Int.natCast_add]; exact { s5 with few := s5.few.le (by omega) (by omega) }, hH6, by omega⟩
    | true =>
      obtain ⟨x, e, rfl⟩ := hb1 rfl
      simp (config := { maxSteps := 2000000 }) -implicitDefEqProofs (disch := (first | omega | rfl | assumption | (simp only [rsD]; first | omega | assumption))) only [e, Nat.reduceAdd, Nat.reduceMul, Nat.reduceLT, Int.reduceToNat, Int.reduceAdd, Int.reduceSub, Int.reduceMul, rsU, rsC]
      exact Ok_some.2 ⟨x, M5, S5, w5, L5, g5, t5, by rw [Int.natCast_add]; rfl, by rw [Int.natCast_add]; exact { s5 with few := s5.few.le (by omega) (by omega) }, hH6, by omega⟩
  · rintro _ ⟨σ', M, S, w, L, g, t, rfl, s, hH, hkt⟩
    have h1 := nodup_le N L.H s.p.lH.nd s.hN
    have h2 := s.ht
    rw [hH] at h1 h2
    have h3 : t = L4.H.length := by omega
    subst h3
    simp (config := { maxSteps := 2000000 }) -implicitDefEqProofs (disch := (first | omega | rfl | assumption | (simp only [rsD]; first | omega | assumption))) only [law15_LargeGreys_L3, hN, Nat.reduceAdd, Nat.reduceMul, Nat.reduceLT, Int.reduceToNat, Int.reduceAdd, Int.reduceSub, Int.reduceMul, rsU, rsC]
    exact Ok_some.2 ⟨σ', M, S, w, L, g, rfl, { s with few := s.few.le (by omega) (by omega) }, hH⟩
  rintro _ ⟨σ5, M5, S5, w5, L5, g5, rfl, s5, hH5⟩
  simp (config := { maxSteps := 2000000 }) -implicitDefEqProofs (disch := (first | omega | rfl | assumption | (simp only [rsD]; first | omega | assumption))) only [Nat.reduceAdd, Nat.reduceMul, Nat.reduceLT, Int.reduceToNat, Int.reduceAdd, Int.reduceSub, Int.reduceMul, rsU, rsC]
  have s5l := s5.p.lH
  refine gr_grey s5 (by decide) (by decide) fun b n σc σd M6 S6 w6 L6 g6 t6 hbt s6 hH6 ht hb1 hb2 => ?_
  have hst := s5.ht
  rw [hH5] at ht hst
  have et : t6 = L4.H.length := by omega
  subst et
  rw [hH5] at hbt
  have hbf : b = false := by rw [hbt]; exact decide_eq_false (by omega)
  subst hbf
  obtain ⟨rfl, rfl, _, _⟩ := hb2 rfl
  have e6 : L6.H = L4.H := hH6.trans hH5
  have og := s6.og
  have oa := s6.oa
  rw [e6, List.take_length] at og
  rw [e6] at oa
  have hl : (nums L4.H).length = L4.H.length := nums_len _
  have hb4 : L4.H.length ≤ 1000000 := by have := s4.p.hw; omega
  have sc := same_cells (l := nums L4.H) (hl ▸ og.rd) (hl ▸ oa.rd) (by omega)
  rw [hl] at sc
  simp only
  simp (config := { maxSteps := 2000000 }) -implicitDefEqProofs (disch := (first | omega | rfl | assumption | (simp only [rsD]; first | omega | assumption))) only [Nat.reduceAdd, Nat.reduceMul, Nat.reduceLT, Int.reduceToNat, Int.reduceAdd, Int.reduceSub, Int.reduceMul, rsU, rsC]
  refine Ok.step sc fun r hr => ?_
  subst hr
  have tt : (true == true) = true := rfl
  simp (config := { maxSteps := 2000000 }) -implicitDefEqProofs (disch := (first | omega | rfl | assumption | (simp only [rsD]; first | omega | assumption))) only [tt, Nat.reduceAdd, Nat.reduceMul, Nat.reduceLT, Int.reduceToNat, Int.reduceAdd, Int.reduceSub, Int.reduceMul, rsU, rsC]
  exact Ok_some.2 rfl
end Go.Abs.Try
