/-
  The document of layer 36 (graph): nodes as plain data; what is asked of them. No conditions.
-/
import Derived.Test.YthkpjongjnjfgaaN1
import Derived.Test.YthkpjongjnjfgaaS8g
set_option linter.unusedVariables false
set_option linter.unusedSimpArgs false
set_option linter.constructorNameAsVariable false
set_option linter.unusedSimpArgs false
set_option linter.unusedVariables false
set_option linter.unusedSectionVars false
set_option maxHeartbeats 1000000
namespace Go.Abs.Try
open Go Go.Abs
variable {O : Type}
structure DN where
  h : HV
  P : List Int
  R : List Int
  gone : Bool
def intsT (el : Nat) (k : IntKind) (l : List Int) : TV := .sl el 1 l.length (l.flatMap (int1 k))
def DN.row (x : DN) : List TV := x.h.cs.map TV.lf ++ [intsT 3 .i64 x.P, intsT 54 .u64 x.R, .lf (.b x.gone)]
theorem DN.len (x : DN) : x.row.length = 8 := rfl
def DN.cells (x : DN) (a b : SA) : List AV := [.i .i64 x.h.p, .i .i64 x.h.r, .i .i64 x.h.site, .i .i64 x.h.age, .b x.h.large, .sl a x.P.length, .sl b x.R.length, .b x.gone]
theorem intsT_un {el : Nat} {k : IntKind} {l : List Int} {v : AV} (h : Im (intsT el k l) v) : ∃ a, v = .sl a l.length /\ Ints k a l := Row.of (int1_len k) h rfl
theorem DN.un {x : DN} {us : List AV} (h : ImL x.row us) : ∃ a b, us = x.cells a b /\ Ints .i64 a x.P /\ Ints .u64 b x.R := by
  unfold DN.row HV.cs at h
  cases h with
  | cons h0 h => cases h with
  | cons h1 h => cases h with
  | cons h2 h => cases h with
  | cons h3 h => cases h with
  | cons h4 h => cases h with
  | cons h5 h => cases h with
  | cons h6 h => cases h with
  | cons h7 h => cases h with
  | nil =>
    obtain ⟨a, rfl, ia⟩ := intsT_un h5
    obtain ⟨b, rfl, ib⟩ := intsT_un h6
    rw [h0.leaf, h1.leaf, h2.leaf, h3.leaf, h4.leaf, h7.leaf]
    exact ⟨a, b, rfl, ia, ib⟩
abbrev DAt (a : SA) (D : List DN) : Prop := Row DN.row 8 a D
theorem DAt.node {a : SA} {D : List DN} (h : DAt a D) {i : Nat} {x : DN} (hx : D[i]? = some x) : ∃ b o c d, a = .loc b o 8 /\ Ints .i64 c x.P /\ Ints .u64 d x.R /\ ∀ (O : Type) (J : AH O),
    J.ld b (o + i * 8) = some (.i .i64 x.h.p) /\ J.ld b (o + i * 8 + 1) = some (.i .i64 x.h.r) /\ J.ld b (o + i * 8 + 2) = some (.i .i64 x.h.site) /\ J.ld b (o + i * 8 + 3) = some (.i .i64 x.h.age) /\ J.ld b (o + i * 8 + 4) = some (.b x.h.large) /\ J.ld b (o + i * 8 + 5) = some (.sl c x.P.length) /\ J.ld b (o + i * 8 + 6) = some (.sl d x.R.length) /\ J.ld b (o + i * 8 + 7) = some (.b x.gone) := by
  obtain ⟨b, o, us, e, h1, h2⟩ := h.get hx
  obtain ⟨c, d, rfl, hc, hd⟩ := DN.un h1
  refine ⟨b, o, c, d, e, hc, hd, fun O J => ⟨?_, ?_, ?_, ?_, ?_, ?_, ?_, ?_⟩⟩
  · exact h2 O J 0 (by decide)
  · exact h2 O J 1 (by decide)
  · exact h2 O J 2 (by decide)
  · exact h2 O J 3 (by decide)
  · exact h2 O J 4 (by decide)
  · exact h2 O J 5 (by decide)
  · exact h2 O J 6 (by decide)
  · exact h2 O J 7 (by decide)
def liveAt (D : List DN) (id : Int) : Option DN := if 1 <= id then (match D[(id - 1).toNat]? with | some x => if x.gone then none else some x | none => none) else none
theorem liveAt_some {D : List DN} {id : Int} {x : DN} (h : liveAt D id = some x) : ∃ i : Nat, id = (i : Int) + 1 /\ D[i]? = some x /\ x.gone = false /\ i < D.length := by
  unfold liveAt at h
  split at h
  · split at h
    · next y hy =>
      split at h
      · cases h
      · next hg =>
        cases h
        exact ⟨(id - 1).toNat, by omega, hy, by simpa using hg, (List.getElem?_eq_some_iff.1 hy).1⟩
    · cases h
  · cases h
theorem liveAt_of {D : List DN} {i : Nat} {x : DN} (h : D[i]? = some x) (hg : x.gone = false) : liveAt D ((i : Int) + 1) = some x := by
  unfold liveAt
  rw [if_pos (by omega), show ((i : Int) + 1 - 1).toNat = i by omega, h]
  simp [hg]
def ptrD (D : List DN) (id i : Int) : Int × Int :=
  match liveAt D id with
  | none => (0, 4)
  | some x => if 0 <= i /\ i < x.P.length then (x.P.getD i.toNat 0, 0) else (0, 32)
def rawD (D : List DN) (id i : Int) : Int × Int :=
  match liveAt D id with
  | none => (0, 4)
  | some x => if 0 <= i /\ i < x.R.length then (x.R.getD i.toNat 0, 0) else (0, 32)
def nz (t : Int) : Bool := decide (t ≠ 0)
def edgesD (D : List DN) (id : Int) : List Int := match liveAt D id with | none => [] | some x => x.P.filter nz
def liveL (D : List DN) : List Nat := (List.range D.length).filter fun i => match D[i]? with | some x => !x.gone | none => false
def idsD (D : List DN) : List Int := (liveL D).map fun i : Nat => (i : Int) + 1
structure Small36 (D : List DN) : Prop where
  n : D.length <= 1000
  p : ∀ x ∈ D, x.P.length <= 5000 /\ x.R.length <= 5000
theorem dis_ok {J : AH O} {a : SA} {D : List DN} (h : DAt a D) (hl : D.length <= 1000) {id : Int} (hr : -9223372036854775808 <= id /\ id <= 9223372036854775807) : haymowref36_Is [.sl a D.length, .i .i64 id] J = some (.b (liveAt D id).isSome, J) := by
  have t0 : (true == true) = true := rfl
  have t1 : (false == true) = false := rfl
  by_cases c1 : 1 <= id
  · have d1 := decide_eq_true (show id >= 1 from c1)
    by_cases c2 : id <= (D.length : Int)
    · have d2 := decide_eq_true c2
      obtain ⟨i, rfl⟩ : ∃ i : Nat, id = (i : Int) + 1 := ⟨(id - 1).toNat, by omega⟩
      obtain ⟨x, hx⟩ : ∃ x, D[i]? = some x := ⟨_, List.getElem?_eq_getElem (by omega)⟩
      obtain ⟨b, o, c, d, rfl, _, _, ld⟩ := h.node hx
      have w := (ld O J).2.2.2.2.2.2.2
      have e1 : (i : Int) + 1 - 1 = i := by omega
      simp (maxSteps := 2000000) -implicitDefEqProofs (disch := (first | omega | rfl | assumption | (simp only [rsD]; first | omega | assumption))) only [haymowref36_Is, haymowref36_Is_c, d1, d2, t0, e1, w, Nat.reduceAdd, Nat.reduceMul, Nat.reduceLT, Int.reduceToNat, Int.reduceAdd, Int.reduceSub, Int.reduceMul, rsU, rsC]
      unfold liveAt
      rw [if_pos c1, show ((i : Int) + 1 - 1).toNat = i by omega, hx]
      cases hg : x.gone <;> simp [hg]
    · have d2 := decide_eq_false c2
      simp (maxSteps := 2000000) -implicitDefEqProofs (disch := (first | omega | rfl | assumption | (simp only [rsD]; first | omega | assumption))) only [haymowref36_Is, haymowref36_Is_c, d1, d2, t0, t1, Nat.reduceAdd, Nat.reduceMul, Nat.reduceLT, Int.reduceToNat, Int.reduceAdd, Int.reduceSub, Int.reduceMul, rsU, rsC]
      unfold liveAt
      rw [if_pos c1, List.getElem?_eq_none (by omega)]; rfl
  · have d1 : decide (id >= 1) = false := decide_eq_false c1
    simp (maxSteps := 2000000) -implicitDefEqProofs (disch := (first | omega | rfl | assumption | (simp only [rsD]; first | omega | assumption))) only [haymowref36_Is, haymowref36_Is_c, d1, t1, Nat.reduceAdd, Nat.reduceMul, Nat.reduceLT, Int.reduceToNat, Int.reduceAdd, Int.reduceSub, Int.reduceMul, rsU, rsC]
    unfold liveAt
    rw [if_neg c1]; rfl
theorem dptr_ok {J : AH O} {a : SA} {D : List DN} (h : DAt a D) (hs : Small36 D) {id i : Int} (hr : -9223372036854775808 <= id /\ id <= 9223372036854775807) : haymowref36_Pointer [.sl a D.length, .i .i64 id, .i .i64 i] J = some (.tup [.i .i64 (ptrD D id i).1, .i .i64 (ptrD D id i).2], J) := by
  have t0 : (false == false) = true := rfl
  have t1 : (true == false) = false := rfl
  have is_ := dis_ok (J := J) h hs.n hr
  unfold ptrD
  cases hl : liveAt D id with
  | none =>
    rw [hl] at is_
    simp (maxSteps := 2000000) -implicitDefEqProofs (disch := (first | omega | rfl | assumption | (simp only [rsD]; first | omega | assumption))) only [haymowref36_Pointer, haymowref36_Pointer_c, is_, Option.isSome_none, Nat.reduceAdd, Nat.reduceMul, Nat.reduceLT, Int.reduceToNat, Int.reduceAdd, Int.reduceSub, Int.reduceMul, rsU, rsC]
  | some x =>
    rw [hl] at is_
    obtain ⟨k, rfl, hx, hg, hk⟩ := liveAt_some hl
    obtain ⟨b, o, c, d, rfl, ic, _, ld⟩ := h.node hx
    have w := (ld O J).2.2.2.2.2.1
    have e1 : (k : Int) + 1 - 1 = k := by omega
    have hsn := hs.n
    by_cases c0 : i < 0
    · have d0 := decide_eq_true c0
      simp (maxSteps := 2000000) -implicitDefEqProofs (disch := (first | omega | rfl | assumption | (simp only [rsD]; first | omega | assumption))) only [haymowref36_Pointer, haymowref36_Pointer_c, is_, Option.isSome_some, d0, t1, Nat.reduceAdd, Nat.reduceMul, Nat.reduceLT, Int.reduceToNat, Int.reduceAdd, Int.reduceSub, Int.reduceMul, rsU, rsC]
      rw [if_neg (by omega)]
    · have d0 := decide_eq_false c0
      by_cases c1 : i < (x.P.length : Int)
      · have d1 : decide (i >= (x.P.length : Int)) = false := decide_eq_false (by omega)
        obtain ⟨j, rfl⟩ : ∃ j : Nat, i = j := ⟨i.toNat, by omega⟩
        obtain ⟨y, hy⟩ : ∃ y, x.P[j]? = some y := ⟨_, List.getElem?_eq_getElem (by omega)⟩
        obtain ⟨b2, o2, rfl, l2⟩ := ic.at hy
        simp (maxSteps := 2000000) -implicitDefEqProofs (disch := (first | omega | rfl | assumption | (simp only [rsD]; first | omega | assumption))) only [haymowref36_Pointer, haymowref36_Pointer_c, is_, Option.isSome_some, d0, t0, e1, w, d1, l2, Nat.reduceAdd, Nat.reduceMul, Nat.reduceLT, Int.reduceToNat, Int.reduceAdd, Int.reduceSub, Int.reduceMul, rsU, rsC]
        rw [if_pos ⟨by omega, c1⟩]
        simp [List.getD_eq_getElem?_getD, hy]
      · have d1 : decide (i >= (x.P.length : Int)) = true := decide_eq_true (by omega)
        simp (maxSteps := 2000000) -implicitDefEqProofs (disch := (first | omega | rfl | assumption | (simp only [rsD]; first | omega | assumption))) only [haymowref36_Pointer, haymowref36_Pointer_c, is_, Option.isSome_some, d0, t0, e1, w, d1, Nat.reduceAdd, Nat.reduceMul, Nat.reduceLT, Int.reduceToNat, Int.reduceAdd, Int.reduceSub, Int.reduceMul, rsU, rsC]
        rw [if_neg (by omega)]
theorem draw_ok {J : AH O} {a : SA} {D : List DN} (h : DAt a D) (hs : Small36 D) {id i : Int} (hr : -9223372036854775808 <= id /\ id <= 9223372036854775807) : haymowref36_Raw [.sl a D.length, .i .i64 id, .i .i64 i] J = some (.tup [.i .u64 (rawD D id i).1, .i .i64 (rawD D id i).2], J) := by
  have t0 : (false == false) = true := rfl
  have t1 : (true == false) = false := rfl
  have is_ := dis_ok (J := J) h hs.n hr
  unfold rawD
  cases hl : liveAt D id with
  | none =>
    rw [hl] at is_
    simp (maxSteps := 2000000) -implicitDefEqProofs (disch := (first | omega | rfl | assumption | (simp only [rsD]; first | omega | assumption))) only [haymowref36_Raw, haymowref36_Raw_c, is_, Option.isSome_none, Nat.reduceAdd, Nat.reduceMul, Nat.reduceLT, Int.reduceToNat, Int.reduceAdd, Int.reduceSub, Int.reduceMul, rsU, rsC]
  | some x =>
    rw [hl] at is_
    obtain ⟨k, rfl, hx, hg, hk⟩ := liveAt_some hl
    obtain ⟨b, o, c, d, rfl, _, ic, ld⟩ := h.node hx
    have w := (ld O J).2.2.2.2.2.2.1
    have e1 : (k : Int) + 1 - 1 = k := by omega
    have hsn := hs.n
    by_cases c0 : i < 0
    · have d0 := decide_eq_true c0
      simp (maxSteps := 2000000) -implicitDefEqProofs (disch := (first | omega | rfl | assumption | (simp only [rsD]; first | omega | assumption))) only [haymowref36_Raw, haymowref36_Raw_c, is_, Option.isSome_some, d0, t1, Nat.reduceAdd, Nat.reduceMul, Nat.reduceLT, Int.reduceToNat, Int.reduceAdd, Int.reduceSub, Int.reduceMul, rsU, rsC]
      rw [if_neg (by omega)]
    · have d0 := decide_eq_false c0
      by_cases c1 : i < (x.R.length : Int)
      · have d1 : decide (i >= (x.R.length : Int)) = false := decide_eq_false (by omega)
        obtain ⟨j, rfl⟩ : ∃ j : Nat, i = j := ⟨i.toNat, by omega⟩
        obtain ⟨y, hy⟩ : ∃ y, x.R[j]? = some y := ⟨_, List.getElem?_eq_getElem (by omega)⟩
        obtain ⟨b2, o2, rfl, l2⟩ := ic.at hy
        simp (maxSteps := 2000000) -implicitDefEqProofs (disch := (first | omega | rfl | assumption | (simp only [rsD]; first | omega | assumption))) only [haymowref36_Raw, haymowref36_Raw_c, is_, Option.isSome_some, d0, t0, e1, w, d1, l2, Nat.reduceAdd, Nat.reduceMul, Nat.reduceLT, Int.reduceToNat, Int.reduceAdd, Int.reduceSub, Int.reduceMul, rsU, rsC]
        rw [if_pos ⟨by omega, c1⟩]
        simp [List.getD_eq_getElem?_getD, hy]
      · have d1 : decide (i >= (x.R.length : Int)) = true := decide_eq_true (by omega)
        simp (maxSteps := 2000000) -implicitDefEqProofs (disch := (first | omega | rfl | assumption | (simp only [rsD]; first | omega | assumption))) only [haymowref36_Raw, haymowref36_Raw_c, is_, Option.isSome_some, d0, t0, e1, w, d1, Nat.reduceAdd, Nat.reduceMul, Nat.reduceLT, Int.reduceToNat, Int.reduceAdd, Int.reduceSub, Int.reduceMul, rsU, rsC]
        rw [if_neg (by omega)]
end Go.Abs.Try
namespace Go.Abs.Try
open Go Go.Abs
variable {O : Type}
def rowsW : List DN -> (Nat -> SA) -> (Nat -> SA) -> List AV
  | [], _, _ => []
  | x :: D, sp, sr => x.cells (sp 0) (sr 0) ++ rowsW D (fun i => sp (i + 1)) (fun i => sr (i + 1))
theorem rowsW_len : ∀ (D : List DN) (sp sr : Nat -> SA), (rowsW D sp sr).length = D.length * 8
  | [], _, _ => rfl
  | x :: D, sp, sr => by simp only [rowsW, List.length_append, rowsW_len D, List.length_cons]; show 8 + _ = _; omega
theorem rowsW_get : ∀ (D : List DN) (sp sr : Nat -> SA) (i j : Nat) (x : DN), D[i]? = some x -> j < 8 -> (rowsW D sp sr)[i * 8 + j]? = (x.cells (sp i) (sr i))[j]?
  | [], _, _, i, j, x, h, _ => by simp at h
  | y :: D, sp, sr, 0, j, x, h, hj => by
    simp at h; subst h
    rw [rowsW, List.getElem?_append_left (by show _ < 8; omega), Nat.zero_mul, Nat.zero_add]
  | y :: D, sp, sr, i + 1, j, x, h, hj => by
    rw [rowsW, List.getElem?_append_right (by show 8 <= _; omega), show (i + 1) * 8 + j - (y.cells (sp 0) (sr 0)).length = i * 8 + j by show _ - 8 = _; omega]
    exact rowsW_get D _ _ i j x (by simpa using h) hj
theorem rowsW_ext {D : List DN} {sp sr : Nat -> SA} {vs : List AV} (hl : vs.length = D.length * 8) (h : ∀ (i j : Nat) (x : DN), D[i]? = some x -> j < 8 -> vs[i * 8 + j]? = (x.cells (sp i) (sr i))[j]?) : vs = rowsW D sp sr := by
  apply List.ext_getElem?
  intro k
  by_cases c : k < D.length * 8
  · obtain ⟨x, hx⟩ : ∃ x, D[k / 8]? = some x := ⟨_, List.getElem?_eq_getElem (by omega)⟩
    have hk : k = k / 8 * 8 + k % 8 := by omega
    rw [hk, h _ _ x hx (by omega), rowsW_get _ _ _ _ _ x hx (by omega)]
  · rw [List.getElem?_eq_none (by omega), List.getElem?_eq_none (by rw [rowsW_len]; omega)]
theorem rowsW_set {D : List DN} {sp sr sp' sr' : Nat -> SA} {i j : Nat} {x y : DN} {v : AV} (hx : D[i]? = some x) (hj : j < 8) (hc : y.cells (sp' i) (sr' i) = (x.cells (sp i) (sr i)).set j v) (ho : ∀ k, k ≠ i -> sp' k = sp k /\ sr' k = sr k) :
    (rowsW D sp sr).set (i * 8 + j) v = rowsW (D.set i y) sp' sr' := by
  have hi := (List.getElem?_eq_some_iff.1 hx).1
  refine rowsW_ext (by simp [rowsW_len]) fun k q z hz hq => ?_
  rw [List.getElem?_set] at hz ⊢
  by_cases c : i = k
  · subst c
    rw [if_pos rfl, if_pos hi] at hz
    cases hz
    rw [hc, List.getElem?_set]
    by_cases cj : j = q
    · subst cj
      rw [if_pos rfl, if_pos (by rw [rowsW_len]; omega), if_pos rfl, if_pos (by show _ < 8; omega)]
    · rw [if_neg (by omega), if_neg cj, rowsW_get _ _ _ _ _ x hx hq]
  · rw [if_neg c] at hz
    rw [if_neg (by omega), rowsW_get _ _ _ _ _ z hz hq, (ho k (Ne.symm c)).1, (ho k (Ne.symm c)).2]
theorem rowsW_congr {D : List DN} {sp sr sp' sr' : Nat -> SA} (h : ∀ k, k < D.length -> sp' k = sp k /\ sr' k = sr k) : rowsW D sp sr = rowsW D sp' sr' :=
  rowsW_ext (rowsW_len _ _ _) fun i j x hx hj => by
    have := h i (List.getElem?_eq_some_iff.1 hx).1
    rw [rowsW_get _ _ _ _ _ x hx hj, this.1, this.2]
theorem rows_un : ∀ {D : List DN} {vs : List AV}, ImL (D.flatMap DN.row) vs -> ∃ sp sr : Nat -> SA, vs = rowsW D sp sr /\ ∀ i x, D[i]? = some x -> Ints .i64 (sp i) x.P /\ Ints .u64 (sr i) x.R
  | [], vs, h => by
    cases h
    exact ⟨fun _ => .nil, fun _ => .nil, rfl, fun i x h => by simp at h⟩
  | y :: D, vs, h => by
    rw [List.flatMap_cons] at h
    have h1 := h.take 8
    have h2 := h.drop 8
    rw [List.take_left' (by exact DN.len y)] at h1
    rw [List.drop_left' (by exact DN.len y)] at h2
    obtain ⟨a, b, e1, ia, ib⟩ := DN.un h1
    obtain ⟨sp, sr, e2, k⟩ := rows_un h2
    refine ⟨fun i => match i with | 0 => a | i + 1 => sp i, fun i => match i with | 0 => b | i + 1 => sr i, ?_, fun i x hx => ?_⟩
    · rw [<- List.take_append_drop 8 vs, e1, e2]; rfl
    · cases i with
      | zero => simp at hx; subst hx; exact ⟨ia, ib⟩
      | succ i => exact k i x (by simpa using hx)
def spW (m : Nat) (i : Nat) : SA := .loc (.n (m + 4 * i + 3)) 0 1
def srW (m : Nat) (i : Nat) : SA := .loc (.n (m + 4 * i + 5)) 0 1
structure WD (J : AH O) (m : Nat) (D : List DN) : Prop where
  nx : m + 2 + 4 * D.length <= J.next
  k : J.blk (m + 1) = some (.cells true T_haymowref36_Node (rowsW D (spW m) (srW m)))
  P : ∀ i x, D[i]? = some x -> J.blk (m + 4 * i + 3) = some (.cells true T_int (x.P.map (.i .i64)))
  R : ∀ i x, D[i]? = some x -> J.blk (m + 4 * i + 5) = some (.cells true T_uint64 (x.R.map (.i .u64)))
theorem WD.ld {J : AH O} {m : Nat} {D : List DN} (h : WD J m D) {i : Nat} {x : DN} (hx : D[i]? = some x) {j : Nat} (hj : j < 8) : (rowsW D (spW m) (srW m))[i * 8 + j]? = (x.cells (spW m i) (srW m i))[j]? := rowsW_get _ _ _ _ _ x hx hj
theorem owl_rows {J : AH O} {m : Nat} : ∀ (D : List DN) (i0 : Nat), (∀ i x, D[i]? = some x -> m + 4 * (i0 + i) + 6 <= J.next /\ J.blk (m + 4 * (i0 + i) + 3) = some (.cells true T_int (x.P.map (.i .i64))) /\ J.blk (m + 4 * (i0 + i) + 5) = some (.cells true T_uint64 (x.R.map (.i .u64)))) ->
    ∃ L, OwL J (D.flatMap DN.row) (rowsW D (fun i => spW m (i0 + i)) (fun i => srW m (i0 + i))) L /\ ∀ b ∈ L, ∃ i, i < D.length /\ (b = m + 4 * (i0 + i) + 3 ∨ b = m + 4 * (i0 + i) + 5)
  | [], i0, _ => ⟨[], .nil, by simp⟩
  | x :: D, i0, h => by
    obtain ⟨L, h1, h2⟩ := owl_rows (J := J) (m := m) D (i0 + 1) fun i y hy => by
      have := h (i + 1) y (by simpa using hy)
      rwa [show i0 + (i + 1) = i0 + 1 + i by omega] at this
    obtain ⟨n0, hp, hr⟩ := h 0 x (by simp)
    simp only [Nat.add_zero] at n0 hp hr
    have op : Ow J (intsT 3 .i64 x.P) (.sl (spW m i0) x.P.length) [m + 4 * i0 + 3] := by
      have := Ow.leaves (J := J) (el := 3) (es := 1) (n := x.P.length) (a := spW m i0) (xs := x.P.map (.i .i64)) (OwnS.new (by simp) hp (by omega)) (flat_ints _)
      rw [<- int1_flat] at this; exact this
    have or_ : Ow J (intsT 54 .u64 x.R) (.sl (srW m i0) x.R.length) [m + 4 * i0 + 5] := by
      have := Ow.leaves (J := J) (el := 54) (es := 1) (n := x.R.length) (a := srW m i0) (xs := x.R.map (.i .u64)) (OwnS.new (by simp) hr (by omega)) (flat_ints _)
      rw [<- int1_flat] at this; exact this
    have hrow : OwL J x.row (x.cells (spW m i0) (srW m i0)) ([m + 4 * i0 + 3] ++ [m + 4 * i0 + 5]) := by
      have h5 := OwL.app (OwL.im (J := J) (ImL.lfs (vs := x.h.cs) rfl)) (OwL.cons op (OwL.cons or_ (OwL.im (J := J) (ImL.lfs (vs := [.b x.gone]) rfl)) (by simp)) (by simp)) (by simp)
      simpa [DN.row, DN.cells, HV.cs] using h5
    have he : rowsW D (fun i => spW m (i0 + 1 + i)) (fun i => srW m (i0 + 1 + i)) = rowsW D (fun i => spW m (i0 + (i + 1))) (fun i => srW m (i0 + (i + 1))) := by
      congr 1 <;> funext i <;> congr 1 <;> omega
    rw [he] at h1
    refine ⟨[m + 4 * i0 + 3] ++ [m + 4 * i0 + 5] ++ L, ?_, fun b hb => ?_⟩
    · rw [List.flatMap_cons]
      exact OwL.app hrow h1 fun b hb hm => by
        obtain ⟨i, _, e⟩ := h2 b hm
        simp at hb
        omega
    · rcases List.mem_append.1 hb with hb | hb
      · exact ⟨0, by simp, by simp at hb; simpa using hb⟩
      · obtain ⟨i, hi, e⟩ := h2 b hb
        exact ⟨i + 1, by simp; omega, by rw [show i0 + (i + 1) = i0 + 1 + i by omega]; exact e⟩
theorem DN.deep (x : DN) : ∀ t ∈ x.row, t.deep 5 := by
  intro t ht
  simp only [DN.row, HV.cs, List.map_cons, List.map_nil, List.cons_append, List.nil_append, List.mem_cons, List.not_mem_nil, or_false] at ht
  have hint : ∀ (k : IntKind) (l : List Int), ∀ t ∈ l.flatMap (int1 k), t.deep 4 := fun k l t ht => by
    obtain ⟨n, _, hn⟩ := List.mem_flatMap.1 ht
    simp only [int1, List.mem_singleton] at hn
    subst hn; exact trivial
  rcases ht with rfl | rfl | rfl | rfl | rfl | rfl | rfl | rfl
  · exact trivial
  · exact trivial
  · exact trivial
  · exact trivial
  · exact trivial
  · exact hint _ _
  · exact hint _ _
  · exact trivial
theorem WD.fz {J : AH O} {m : Nat} {D : List DN} (h : WD J m D) : ∃ L a', FZ 7 J.blk L (.sl (.loc (.n (m + 1)) 0 8) D.length) (.sl a' D.length) /\ DAt a' D /\ ∀ b ∈ L, m <= b := by
  obtain ⟨L, h1, h2⟩ := owl_rows (J := J) (m := m) D 0 fun i x hx => by
    have := (List.getElem?_eq_some_iff.1 hx).1
    have hn := h.nx
    rw [Nat.zero_add]
    exact ⟨by omega, h.P i x hx, h.R i x hx⟩
  simp only [Nat.zero_add] at h1 h2
  have o : OwnS J T_haymowref36_Node 8 (.loc (.n (m + 1)) 0 8) D.length (rowsW D (spW m) (srW m)) := OwnS.new (rowsW_len _ _ _) h.k (by have := h.nx; omega)
  obtain ⟨v', f1, m1⟩ := Ow.fz (t := .sl T_haymowref36_Node 8 D.length (D.flatMap DN.row)) (d := 6) (.sl o.p h1 fun b hb hm => by
    obtain ⟨i, _, e⟩ := h2 b hm
    simp [SA.bk] at hb; omega) (by
      unfold TV.deep
      intro t ht
      obtain ⟨x, _, hx⟩ := List.mem_flatMap.1 ht
      exact x.deep t hx)
  obtain ⟨a', rfl, ha⟩ := Row.of DN.len m1 rfl
  refine ⟨_, a', f1, ha, fun b hb => ?_⟩
  rcases List.mem_append.1 hb with hb | hb
  · simp [SA.bk] at hb; omega
  · obtain ⟨i, _, e⟩ := h2 b hb
    omega
end Go.Abs.Try
namespace Go.Abs.Try
open Go Go.Abs
variable {O : Type}
theorem s_app0 {J : AH O} {b nid el es m : Nat} {new : List AV} (h : J.blk b = some (.cells true el [])) : J.appSl nid el es (.loc (.n b) 0 es) 0 m new = some (.sl (.loc (.n nid) 0 es) m, (J.kill b).put nid (.cells true el new)) := by
  simp only [AH.appSl, h]
  simp
  rfl
theorem s_app0p {J : AH O} {b nid el es m : Nat} {new : List AV} : (J.put b (.cells true el [])).appSl nid el es (.loc (.n b) 0 es) 0 m new = some (.sl (.loc (.n nid) 0 es) m, ((J.put b (.cells true el [])).kill b).put nid (.cells true el new)) := s_app0 s_bs
def upS (m k : Nat) (w s : Nat -> SA) (i : Nat) : SA := if i < k then w i else s i
structure CI (J0 : AH O) (D : List DN) (sp sr : Nat -> SA) (k : Nat) (J : AH O) : Prop where
  nx : J.next = J0.next + 2 + 4 * k
  kb : J.blk (J0.next + 1) = some (.cells true T_haymowref36_Node (rowsW D (upS J0.next k (spW J0.next) sp) (upS J0.next k (srW J0.next) sr)))
  P : ∀ i x, i < k -> D[i]? = some x -> J.blk (J0.next + 4 * i + 3) = some (.cells true T_int (x.P.map (.i .i64)))
  R : ∀ i x, i < k -> D[i]? = some x -> J.blk (J0.next + 4 * i + 5) = some (.cells true T_uint64 (x.R.map (.i .u64)))
  e : Ext J0 J
theorem copied_step36 {J0 J : AH O} {D : List DN} {sp sr : Nat -> SA} {k : Nat} (hs : Small36 D) (hi : ∀ i x, D[i]? = some x -> Ints .i64 (sp i) x.P /\ Ints .u64 (sr i) x.R) (hk : k < D.length) (h : CI J0 D sp sr k J) :
    Ok (haymowref36_copied_L1 (.loc (.n (J0.next + 1)) 0 8, D.length) ([.i .i64 (k : Int)], J)) fun r => ∃ J', r = .inl ([.i .i64 ((k + 1 : Nat) : Int)], J') /\ CI J0 D sp sr (k + 1) J' := by
  obtain ⟨nx, hb, hP, hR, hE⟩ := h
  obtain ⟨x, hx⟩ : ∃ x, D[k]? = some x := ⟨_, List.getElem?_eq_getElem hk⟩
  obtain ⟨ip, ir⟩ := hi k x hx
  obtain ⟨sl1, sl2⟩ := hs.p x (List.mem_of_getElem? hx)
  have hn := hs.n
  have rp : ∀ J : AH O, J.rdSl (sp k) x.P.length 1 = some (x.P.map (.i .i64)) := fun J => (ip.imm O J).rdSl
  have rr : ∀ J : AH O, J.rdSl (sr k) x.R.length 1 = some (x.R.map (.i .u64)) := fun J => (ir.imm O J).rdSl
  have lenW := rowsW_len D (upS J0.next k (spW J0.next) sp) (upS J0.next k (srW J0.next) sr)
  have g5 : (rowsW D (upS J0.next k (spW J0.next) sp) (upS J0.next k (srW J0.next) sr))[k * 8 + 5]? = some (.sl (sp k) x.P.length) := by
    rw [rowsW_get _ _ _ _ _ x hx (by decide)]
    simp [DN.cells, upS]
  have s5 : (rowsW D (upS J0.next k (spW J0.next) sp) (upS J0.next k (srW J0.next) sr)).set (k * 8 + 5) (.sl (.loc (.n (J.next + 1)) 0 1) x.P.length) = rowsW D (upS J0.next (k + 1) (spW J0.next) sp) (upS J0.next k (srW J0.next) sr) := by
    rw [rowsW_set (y := x) (sp' := upS J0.next (k + 1) (spW J0.next) sp) (sr' := upS J0.next k (srW J0.next) sr) hx (by decide) ?_ ?_, set_same hx]
    · simp only [DN.cells, upS, Nat.lt_succ_self, if_true, Nat.lt_irrefl, if_false, spW, nx]
      rw [show J0.next + 4 * k + 3 = J0.next + 2 + 4 * k + 1 by omega]; rfl
    · intro q hq
      simp only [upS]
      by_cases c : q < k
      · simp [c, show q < k + 1 by omega]
      · simp [c, show ¬ q < k + 1 by omega]
  have lenV := rowsW_len D (upS J0.next (k + 1) (spW J0.next) sp) (upS J0.next k (srW J0.next) sr)
  have g6 : (rowsW D (upS J0.next (k + 1) (spW J0.next) sp) (upS J0.next k (srW J0.next) sr))[k * 8 + 6]? = some (.sl (sr k) x.R.length) := by
    rw [rowsW_get _ _ _ _ _ x hx (by decide)]
    simp [DN.cells, upS]
  have s6 : (rowsW D (upS J0.next (k + 1) (spW J0.next) sp) (upS J0.next k (srW J0.next) sr)).set (k * 8 + 6) (.sl (.loc (.n (J.next + 2 + 1)) 0 1) x.R.length) = rowsW D (upS J0.next (k + 1) (spW J0.next) sp) (upS J0.next (k + 1) (srW J0.next) sr) := by
    rw [rowsW_set (y := x) (sp' := upS J0.next (k + 1) (spW J0.next) sp) (sr' := upS J0.next (k + 1) (srW J0.next) sr) hx (by decide) ?_ ?_, set_same hx]
    · simp only [DN.cells, upS, Nat.lt_succ_self, if_true, Nat.lt_irrefl, if_false, srW, nx]
      rw [show J0.next + 4 * k + 5 = J0.next + 2 + 4 * k + 2 + 1 by omega]; rfl
    · intro q hq
      simp only [upS]
      by_cases c : q < k
      · simp [c, show q < k + 1 by omega]
      · simp [c, show ¬ q < k + 1 by omega]
  generalize hU : rowsW D (upS J0.next (k + 1) (spW J0.next) sp) (upS J0.next (k + 1) (srW J0.next) sr) = U at *
  generalize hV : rowsW D (upS J0.next (k + 1) (spW J0.next) sp) (upS J0.next k (srW J0.next) sr) = V at *
  generalize hW : rowsW D (upS J0.next k (spW J0.next) sp) (upS J0.next k (srW J0.next) sr) = W at *
  have q5 : splice W (k * 8 + 5) [.sl (.loc (.n (J.next + 1)) 0 1) x.P.length] = V := by rw [splice_set (by omega)]; exact s5
  have q6 : splice V (k * 8 + 6) [.sl (.loc (.n (J.next + 2 + 1)) 0 1) x.R.length] = U := by rw [splice_set (by omega)]; exact s6
  have b5 : Nat.ble (k * 8 + 5 + 1) W.length = true := Nat.ble_eq_true_of_le (by omega)
  have b6 : Nat.ble (k * 8 + 6 + 1) V.length = true := Nat.ble_eq_true_of_le (by omega)
  have dk := decide_eq_true (show (k : Int) < (D.length : Int) by omega)
  simp (maxSteps := 2000000) -implicitDefEqProofs (disch := (first | omega | rfl | assumption | (simp only [rsD]; first | omega | assumption))) only [haymowref36_copied_L1, dk, hb, g5, rp, s_app0p, q5, b5, g6, rr, q6, b6, s_kn, kill_next, put_next, bump_next, Nat.reduceAdd, Nat.reduceMul, Nat.reduceLT, Int.reduceToNat, Int.reduceAdd, Int.reduceSub, Int.reduceMul, rsU, rsC]
  refine Ok_some.2 ⟨_, rfl, ⟨by simp only [rsD]; omega, by rw [hU]; ((try simp only [rsD] at *); simp -implicitDefEqProofs (disch := (first | omega | rfl | assumption | (simp only [rsD]; first | omega | assumption))) only [s_bs, s_bn, s_kn, bump_blk]), fun i y hi' hy => ?_, fun i y hi' hy => ?_, ?_⟩⟩
  · by_cases c : i = k
    · subst c
      rw [hx] at hy; cases hy
      rw [show J0.next + 4 * i + 3 = J.next + 1 by omega]
      ((try simp only [rsD] at *); simp -implicitDefEqProofs (disch := (first | omega | rfl | assumption | (simp only [rsD]; first | omega | assumption))) only [s_bs, s_bn, s_kn, bump_blk])
    · rw [<- hP i y (by omega) hy]
      ((try simp only [rsD] at *); simp -implicitDefEqProofs (disch := (first | omega | rfl | assumption | (simp only [rsD]; first | omega | assumption))) only [s_bs, s_bn, s_kn, bump_blk])
  · by_cases c : i = k
    · subst c
      rw [hx] at hy; cases hy
      rw [show J0.next + 4 * i + 5 = J.next + 2 + 1 by omega]
      ((try simp only [rsD] at *); simp -implicitDefEqProofs (disch := (first | omega | rfl | assumption | (simp only [rsD]; first | omega | assumption))) only [s_bs, s_bn, s_kn, bump_blk])
    · rw [<- hR i y (by omega) hy]
      ((try simp only [rsD] at *); simp -implicitDefEqProofs (disch := (first | omega | rfl | assumption | (simp only [rsD]; first | omega | assumption))) only [s_bs, s_bn, s_kn, bump_blk])
  · refine ⟨by simp only [rsD]; omega, fun b hb => ?_⟩
    rw [<- hE.blk b hb]
    ((try simp only [rsD] at *); simp -implicitDefEqProofs (disch := (first | omega | rfl | assumption | (simp only [rsD]; first | omega | assumption))) only [s_bs, s_bn, s_kn, bump_blk])
theorem dcopied_ok {J : AH O} {a : SA} {D : List DN} (h : DAt a D) (hs : Small36 D) : Ok (haymowref36_copied [.sl a D.length] J) fun r => r.1 = .sl (.loc (.n (J.next + 1)) 0 8) D.length /\ WD r.2 J.next D /\ Ext J r.2 := by
  obtain ⟨vs, v1, v2, v3⟩ := h.all
  obtain ⟨sp, sr, rfl, hi⟩ := rows_un v2
  have hn := hs.n
  simp (maxSteps := 2000000) -implicitDefEqProofs (disch := (first | omega | rfl | assumption | (simp only [rsD]; first | omega | assumption))) only [haymowref36_copied, haymowref36_copied_c, v3, s_app0p, Nat.reduceAdd, Nat.reduceMul, Nat.reduceLT, Int.reduceToNat, Int.reduceAdd, Int.reduceSub, Int.reduceMul, rsU, rsC]
  refine Ok.step (Ok.count D.length (fun k s => ∃ J', s = ([.i .i64 (k : Int)], J') /\ CI J D sp sr k J') (Q := fun r => ∃ J', r = ([], J') /\ CI J D sp sr D.length J') ?_ ?_ ?_) ?_
  · rintro k s hk ⟨J', rfl, c⟩
    refine (copied_step36 hs hi hk c).mono ?_
    rintro _ ⟨J2, rfl, c2⟩
    exact ⟨J2, rfl, c2⟩
  · rintro s ⟨J', rfl, c⟩
    simp (maxSteps := 2000000) -implicitDefEqProofs (disch := (first | omega | rfl | assumption | (simp only [rsD]; first | omega | assumption))) only [haymowref36_copied_L1, Nat.reduceAdd, Nat.reduceMul, Nat.reduceLT, Int.reduceToNat, Int.reduceAdd, Int.reduceSub, Int.reduceMul, rsU, rsC]
    exact Ok_some.2 ⟨J', rfl, c⟩
  · refine ⟨_, rfl, ?_, ?_, fun i x hi' => by omega, fun i x hi' => by omega, (ext_of (by simp only [put_next, bump_next, kill_next]; omega) (fun b hb => by simp -implicitDefEqProofs (disch := (first | omega | rfl | assumption | (simp only [rsD]; first | omega | assumption))) only [s_bn, s_kn, bump_blk, s_ext]))⟩
    · rfl
    rw [show rowsW D (upS J.next 0 (spW J.next) sp) (upS J.next 0 (srW J.next) sr) = rowsW D sp sr from rowsW_congr fun k _ => by simp [upS]]
    ((try simp only [rsD] at *); simp -implicitDefEqProofs (disch := (first | omega | rfl | assumption | (simp only [rsD]; first | omega | assumption))) only [s_bs, s_bn, s_kn, bump_blk])
  · rintro _ ⟨J', rfl, c⟩
    simp (maxSteps := 2000000) -implicitDefEqProofs (disch := (first | omega | rfl | assumption | (simp only [rsD]; first | omega | assumption))) only [Nat.reduceAdd, Nat.reduceMul, Nat.reduceLT, Int.reduceToNat, Int.reduceAdd, Int.reduceSub, Int.reduceMul, rsU, rsC]
    refine Ok_some.2 ⟨rfl, ⟨by rw [c.nx]; omega, ?_, fun i x hx => c.P i x (List.getElem?_eq_some_iff.1 hx).1 hx, fun i x hx => c.R i x (List.getElem?_eq_some_iff.1 hx).1 hx⟩, c.e⟩
    rw [c.kb]
    exact congrArg (fun z => some (Blk.cells true T_haymowref36_Node z)) (rowsW_congr fun k hk => by simp [upS, hk])
end Go.Abs.Try
namespace Go.Abs.Try
open Go Go.Abs
variable {O : Type}
theorem within12 (J : AH O) (n m : Int) : header_within [.i .i64 n, .i .i64 m] J = some (.b (decide (0 <= n /\ n <= m)), J) := by
  by_cases h : 0 <= n
  · simp (maxSteps := 2000000) -implicitDefEqProofs (disch := (first | omega | rfl | assumption | (simp only [rsD]; first | omega | assumption))) only [header_within, header_within_c, ge_iff_le, Nat.reduceAdd, Nat.reduceMul, Nat.reduceLT, Int.reduceToNat, Int.reduceAdd, Int.reduceSub, Int.reduceMul, rsU, rsC]
    try simp [h]
  · simp (maxSteps := 2000000) -implicitDefEqProofs (disch := (first | omega | rfl | assumption | (simp only [rsD]; first | omega | assumption))) only [header_within, header_within_c, ge_iff_le, Nat.reduceAdd, Nat.reduceMul, Nat.reduceLT, Int.reduceToNat, Int.reduceAdd, Int.reduceSub, Int.reduceMul, rsU, rsC]
    try simp [h]
def chkOf (p r s g : Int) : Int := if ¬(0 <= p /\ p <= 4095) ∨ ¬(0 <= r /\ r <= 4095) then 20 else if ¬(0 <= s /\ s <= 31) then 21 else if ¬(0 <= g /\ g <= 7) then 2 else 0
theorem check_ok (J : AH O) (p r s g : Int) (l : Bool) : Ok (header_Check [.agg [.i .i64 p, .i .i64 r, .i .i64 s, .i .i64 g, .b l]] J) fun q => q.1 = .i .i64 (chkOf p r s g) /\ Ext J q.2 := by
  by_cases h1 : 0 <= p /\ p <= 4095
  · by_cases h2 : 0 <= r /\ r <= 4095
    · by_cases h3 : 0 <= s /\ s <= 31
      · by_cases h4 : 0 <= g /\ g <= 7
        · simp (maxSteps := 2000000) -implicitDefEqProofs (disch := (first | omega | rfl | assumption | (simp only [rsD]; first | omega | assumption))) only [header_Check, header_Check_c, within12, decide_eq_true h1, decide_eq_true h2, decide_eq_true h3, decide_eq_true h4, Nat.reduceAdd, Nat.reduceMul, Nat.reduceLT, Int.reduceToNat, Int.reduceAdd, Int.reduceSub, Int.reduceMul, rsU, rsC]
          exact Ok_some.2 ⟨by simp [chkOf, h1, h2, h3, h4], (ext_of (by simp only [put_next, bump_next, kill_next]; omega) (fun b hb => by simp -implicitDefEqProofs (disch := (first | omega | rfl | assumption | (simp only [rsD]; first | omega | assumption))) only [s_bn, s_kn, bump_blk, s_ext]))⟩
        · simp (maxSteps := 2000000) -implicitDefEqProofs (disch := (first | omega | rfl | assumption | (simp only [rsD]; first | omega | assumption))) only [header_Check, header_Check_c, within12, decide_eq_true h1, decide_eq_true h2, decide_eq_true h3, decide_eq_false h4, Nat.reduceAdd, Nat.reduceMul, Nat.reduceLT, Int.reduceToNat, Int.reduceAdd, Int.reduceSub, Int.reduceMul, rsU, rsC]
          exact Ok_some.2 ⟨by simp [chkOf, h1, h2, h3, h4], (ext_of (by simp only [put_next, bump_next, kill_next]; omega) (fun b hb => by simp -implicitDefEqProofs (disch := (first | omega | rfl | assumption | (simp only [rsD]; first | omega | assumption))) only [s_bn, s_kn, bump_blk, s_ext]))⟩
      · simp (maxSteps := 2000000) -implicitDefEqProofs (disch := (first | omega | rfl | assumption | (simp only [rsD]; first | omega | assumption))) only [header_Check, header_Check_c, within12, decide_eq_true h1, decide_eq_true h2, decide_eq_false h3, Nat.reduceAdd, Nat.reduceMul, Nat.reduceLT, Int.reduceToNat, Int.reduceAdd, Int.reduceSub, Int.reduceMul, rsU, rsC]
        exact Ok_some.2 ⟨by simp [chkOf, h1, h2, h3], (ext_of (by simp only [put_next, bump_next, kill_next]; omega) (fun b hb => by simp -implicitDefEqProofs (disch := (first | omega | rfl | assumption | (simp only [rsD]; first | omega | assumption))) only [s_bn, s_kn, bump_blk, s_ext]))⟩
    · simp (maxSteps := 2000000) -implicitDefEqProofs (disch := (first | omega | rfl | assumption | (simp only [rsD]; first | omega | assumption))) only [header_Check, header_Check_c, within12, decide_eq_true h1, decide_eq_false h2, Nat.reduceAdd, Nat.reduceMul, Nat.reduceLT, Int.reduceToNat, Int.reduceAdd, Int.reduceSub, Int.reduceMul, rsU, rsC]
      exact Ok_some.2 ⟨by simp [chkOf, h1, h2], (ext_of (by simp only [put_next, bump_next, kill_next]; omega) (fun b hb => by simp -implicitDefEqProofs (disch := (first | omega | rfl | assumption | (simp only [rsD]; first | omega | assumption))) only [s_bn, s_kn, bump_blk, s_ext]))⟩
  · simp (maxSteps := 2000000) -implicitDefEqProofs (disch := (first | omega | rfl | assumption | (simp only [rsD]; first | omega | assumption))) only [header_Check, header_Check_c, within12, decide_eq_false h1, Nat.reduceAdd, Nat.reduceMul, Nat.reduceLT, Int.reduceToNat, Int.reduceAdd, Int.reduceSub, Int.reduceMul, rsU, rsC]
    exact Ok_some.2 ⟨by simp [chkOf, h1], (ext_of (by simp only [put_next, bump_next, kill_next]; omega) (fun b hb => by simp -implicitDefEqProofs (disch := (first | omega | rfl | assumption | (simp only [rsD]; first | omega | assumption))) only [s_bn, s_kn, bump_blk, s_ext]))⟩
theorem rcheckc_ok (J : AH O) (p r s g : Int) (l : Bool) : Ok (haymowref12_Check [.agg [.i .i64 p, .i .i64 r, .i .i64 s, .i .i64 g, .b l]] J) fun q => q.1 = .i .i64 (chkOf p r s g) /\ Ext J q.2 := by
  have E : ∀ {x : Blk O}, Ext J ((J.bump 1).put J.next x) := fun {x} => ((Ext.refl J).bump 1).put (Nat.le_refl _) _
  have f0 : (false == false) = true := rfl
  have f1 : (true == false) = false := rfl
  by_cases cplo : p < 0
  · have dplo : decide (p < 0) = true := decide_eq_true cplo
    simp (maxSteps := 2000000) -implicitDefEqProofs (disch := (first | omega | rfl | assumption | (simp only [rsD]; first | omega | assumption))) only [haymowref12_Check, haymowref12_Check_c, dplo, f0, f1, Nat.reduceAdd, Nat.reduceMul, Nat.reduceLT, Int.reduceToNat, Int.reduceAdd, Int.reduceSub, Int.reduceMul, rsU, rsC]
    exact Ok_some.2 ⟨by unfold chkOf; rw [if_pos (by omega)], E⟩
  have dplo : decide (p < 0) = false := decide_eq_false cplo
  by_cases cphi : p > 4095
  · have dphi : decide (p > 4095) = true := decide_eq_true cphi
    simp (maxSteps := 2000000) -implicitDefEqProofs (disch := (first | omega | rfl | assumption | (simp only [rsD]; first | omega | assumption))) only [haymowref12_Check, haymowref12_Check_c, dplo, dphi, f0, f1, Nat.reduceAdd, Nat.reduceMul, Nat.reduceLT, Int.reduceToNat, Int.reduceAdd, Int.reduceSub, Int.reduceMul, rsU, rsC]
    exact Ok_some.2 ⟨by unfold chkOf; rw [if_pos (by omega)], E⟩
  have dphi : decide (p > 4095) = false := decide_eq_false cphi
  by_cases crlo : r < 0
  · have drlo : decide (r < 0) = true := decide_eq_true crlo
    simp (maxSteps := 2000000) -implicitDefEqProofs (disch := (first | omega | rfl | assumption | (simp only [rsD]; first | omega | assumption))) only [haymowref12_Check, haymowref12_Check_c, dplo, dphi, drlo, f0, f1, Nat.reduceAdd, Nat.reduceMul, Nat.reduceLT, Int.reduceToNat, Int.reduceAdd, Int.reduceSub, Int.reduceMul, rsU, rsC]
    exact Ok_some.2 ⟨by unfold chkOf; rw [if_pos (by omega)], E⟩
  have drlo : decide (r < 0) = false := decide_eq_false crlo
  by_cases crhi : r > 4095
  · have drhi : decide (r > 4095) = true := decide_eq_true crhi
    simp (maxSteps := 2000000) -implicitDefEqProofs (disch := (first | omega | rfl | assumption | (simp only [rsD]; first | omega | assumption))) only [haymowref12_Check, haymowref12_Check_c, dplo, dphi, drlo, drhi, f0, f1, Nat.reduceAdd, Nat.reduceMul, Nat.reduceLT, Int.reduceToNat, Int.reduceAdd, Int.reduceSub, Int.reduceMul, rsU, rsC]
    exact Ok_some.2 ⟨by unfold chkOf; rw [if_pos (by omega)], E⟩
  have drhi : decide (r > 4095) = false := decide_eq_false crhi
  by_cases cslo : s < 0
  · have dslo : decide (s < 0) = true := decide_eq_true cslo
    simp (maxSteps := 2000000) -implicitDefEqProofs (disch := (first | omega | rfl | assumption | (simp only [rsD]; first | omega | assumption))) only [haymowref12_Check, haymowref12_Check_c, dplo, dphi, drlo, drhi, dslo, f0, f1, Nat.reduceAdd, Nat.reduceMul, Nat.reduceLT, Int.reduceToNat, Int.reduceAdd, Int.reduceSub, Int.reduceMul, rsU, rsC]
    exact Ok_some.2 ⟨by unfold chkOf; rw [if_neg (by omega), if_pos (by omega)], E⟩
  have dslo : decide (s < 0) = false := decide_eq_false cslo
  by_cases cshi : s > 31
  · have dshi : decide (s > 31) = true := decide_eq_true cshi
    simp (maxSteps := 2000000) -implicitDefEqProofs (disch := (first | omega | rfl | assumption | (simp only [rsD]; first | omega | assumption))) only [haymowref12_Check, haymowref12_Check_c, dplo, dphi, drlo, drhi, dslo, dshi, f0, f1, Nat.reduceAdd, Nat.reduceMul, Nat.reduceLT, Int.reduceToNat, Int.reduceAdd, Int.reduceSub, Int.reduceMul, rsU, rsC]
    exact Ok_some.2 ⟨by unfold chkOf; rw [if_neg (by omega), if_pos (by omega)], E⟩
  have dshi : decide (s > 31) = false := decide_eq_false cshi
  by_cases cglo : g < 0
  · have dglo : decide (g < 0) = true := decide_eq_true cglo
    simp (maxSteps := 2000000) -implicitDefEqProofs (disch := (first | omega | rfl | assumption | (simp only [rsD]; first | omega | assumption))) only [haymowref12_Check, haymowref12_Check_c, dplo, dphi, drlo, drhi, dslo, dshi, dglo, f0, f1, Nat.reduceAdd, Nat.reduceMul, Nat.reduceLT, Int.reduceToNat, Int.reduceAdd, Int.reduceSub, Int.reduceMul, rsU, rsC]
    exact Ok_some.2 ⟨by unfold chkOf; rw [if_neg (by omega), if_neg (by omega), if_pos (by omega)], E⟩
  have dglo : decide (g < 0) = false := decide_eq_false cglo
  by_cases cghi : g > 7
  · have dghi : decide (g > 7) = true := decide_eq_true cghi
    simp (maxSteps := 2000000) -implicitDefEqProofs (disch := (first | omega | rfl | assumption | (simp only [rsD]; first | omega | assumption))) only [haymowref12_Check, haymowref12_Check_c, dplo, dphi, drlo, drhi, dslo, dshi, dglo, dghi, f0, f1, Nat.reduceAdd, Nat.reduceMul, Nat.reduceLT, Int.reduceToNat, Int.reduceAdd, Int.reduceSub, Int.reduceMul, rsU, rsC]
    exact Ok_some.2 ⟨by unfold chkOf; rw [if_neg (by omega), if_neg (by omega), if_pos (by omega)], E⟩
  have dghi : decide (g > 7) = false := decide_eq_false cghi
  simp (maxSteps := 2000000) -implicitDefEqProofs (disch := (first | omega | rfl | assumption | (simp only [rsD]; first | omega | assumption))) only [haymowref12_Check, haymowref12_Check_c, dplo, dphi, drlo, drhi, dslo, dshi, dglo, dghi, f0, f1, Nat.reduceAdd, Nat.reduceMul, Nat.reduceLT, Int.reduceToNat, Int.reduceAdd, Int.reduceSub, Int.reduceMul, rsU, rsC]
  exact Ok_some.2 ⟨by unfold chkOf; rw [if_neg (by omega), if_neg (by omega), if_neg (by omega)], E⟩
def olderV (h : HV) : HV := { h with age := if h.age < 7 then h.age + 1 else h.age }
theorem rolder_ok (J : AH O) (h : HV) (hr : 0 <= h.age /\ h.age <= 7) : Ok (haymowref12_Older [.agg h.cs] J) fun q => q.1 = .agg (olderV h).cs /\ Ext J q.2 := by
  obtain ⟨p, r, s, g, l⟩ := h
  simp only at hr
  simp only [HV.cs, olderV]
  by_cases c : g < 7
  · have d := decide_eq_true c
    simp (maxSteps := 2000000) -implicitDefEqProofs (disch := (first | omega | rfl | assumption | (simp only [rsD]; first | omega | assumption))) only [haymowref12_Older, haymowref12_Older_c, d, Nat.reduceAdd, Nat.reduceMul, Nat.reduceLT, Int.reduceToNat, Int.reduceAdd, Int.reduceSub, Int.reduceMul, rsU, rsC]
    exact Ok_some.2 ⟨by rw [if_pos c], (ext_of (by simp only [put_next, bump_next, kill_next]; omega) (fun b hb => by simp -implicitDefEqProofs (disch := (first | omega | rfl | assumption | (simp only [rsD]; first | omega | assumption))) only [s_bn, s_kn, bump_blk, s_ext]))⟩
  · have d := decide_eq_false c
    simp (maxSteps := 2000000) -implicitDefEqProofs (disch := (first | omega | rfl | assumption | (simp only [rsD]; first | omega | assumption))) only [haymowref12_Older, haymowref12_Older_c, d, Nat.reduceAdd, Nat.reduceMul, Nat.reduceLT, Int.reduceToNat, Int.reduceAdd, Int.reduceSub, Int.reduceMul, rsU, rsC]
    exact Ok_some.2 ⟨by rw [if_neg c], (ext_of (by simp only [put_next, bump_next, kill_next]; omega) (fun b hb => by simp -implicitDefEqProofs (disch := (first | omega | rfl | assumption | (simp only [rsD]; first | omega | assumption))) only [s_bn, s_kn, bump_blk, s_ext]))⟩
end Go.Abs.Try
namespace Go.Abs.Try
open Go Go.Abs
variable {O : Type}
theorem frz_D {s : Sm O} {xs : List AV} {J : AH O} {D : List DN} {rest : List AV} (hr : rest.all AV.flat = true) (h : Ok (s xs J) fun r => ∃ v L a', r.1 = .tup (v :: rest) /\ Ext J r.2 /\ FZ 7 r.2.blk L v (.sl a' D.length) /\ DAt a' D /\ ∀ b ∈ L, J.next <= b) :
    Ok (frz s xs J) fun r => (∃ a, r.1 = .tup (.sl a D.length :: rest) /\ DAt a D) /\ Ext J r.2 := by
  refine frz_ok (Q := fun v => ∃ a, v = .tup (.sl a D.length :: rest) /\ DAt a D) (h.mono ?_)
  rintro ⟨v, J'⟩ ⟨w, L, a', rfl, e, f, d, hl⟩
  have := FZL.cons f (FZL.flat (H := J'.blk) hr) (by simp)
  rw [List.append_nil] at this
  exact ⟨_, L, FZ.tup this, hl, e, a', rfl, d⟩
theorem fz_same {H : Nat -> Option (Blk O)} {a : SA} {D : List DN} (h : DAt a D) : FZ 7 H [] (.sl a D.length) (.sl a D.length) := fz_row h
def addD (D : List DN) (h : HV) : List DN × Int × Int :=
  if chkOf h.p h.r h.site h.age = 0 then (D ++ [⟨h, List.replicate h.p.toNat 0, List.replicate h.r.toNat 0, false⟩], (D.length : Int) + 1, 0) else (D, 0, chkOf h.p h.r h.site h.age)
def zeroD (id : Int) (x : DN) : DN := { x with P := x.P.map fun t => if t = id then 0 else t }
def dropD (D : List DN) (id : Int) : List DN × Int :=
  match liveAt D id with
  | none => (D, 4)
  | some x => ((D.set (id - 1).toNat { x with gone := true }).map (zeroD id), 0)
def growD (D : List DN) (id : Int) : List DN × Int :=
  match liveAt D id with
  | none => (D, 4)
  | some x => (D.set (id - 1).toNat { x with h := olderV x.h }, 0)
def linkD (D : List DN) (id i to : Int) : List DN × Int :=
  match liveAt D id with
  | none => (D, 4)
  | some x => if 0 <= i /\ i < x.P.length then (if to ≠ 0 /\ liveAt D to = none then (D, 2) else (D.set (id - 1).toNat { x with P := x.P.set i.toNat to }, 0)) else (D, 32)
def writeD (D : List DN) (id i w : Int) : List DN × Int :=
  match liveAt D id with
  | none => (D, 4)
  | some x => if 0 <= i /\ i < x.R.length then (D.set (id - 1).toNat { x with R := x.R.set i.toNat w }, 0) else (D, 32)
theorem WD.fzD {J : AH O} {m : Nat} {D : List DN} {J0 : AH O} (h : WD J m D) (h0 : J0.next <= m) : ∃ L a', FZ 7 J.blk L (.sl (.loc (.n (m + 1)) 0 8) D.length) (.sl a' D.length) /\ DAt a' D /\ ∀ b ∈ L, J0.next <= b := by
  obtain ⟨L, a', f, d, hl⟩ := h.fz
  exact ⟨L, a', f, d, fun b hb => Nat.le_trans h0 (hl b hb)⟩
theorem WD.setRow {J : AH O} {m : Nat} {D : List DN} (h : WD J m D) {i : Nat} {x y : DN} (hx : D[i]? = some x) {J' : AH O} (hn : J.next <= J'.next)
    (hk : J'.blk (m + 1) = some (.cells true T_haymowref36_Node (rowsW (D.set i y) (spW m) (srW m)))) (hP : J'.blk (m + 4 * i + 3) = some (.cells true T_int (y.P.map (.i .i64)))) (hR : J'.blk (m + 4 * i + 5) = some (.cells true T_uint64 (y.R.map (.i .u64))))
    (ho : ∀ b, b ≠ m + 1 -> b ≠ m + 4 * i + 3 -> b ≠ m + 4 * i + 5 -> m <= b -> J'.blk b = J.blk b) : WD J' m (D.set i y) := by
  have hi := (List.getElem?_eq_some_iff.1 hx).1
  refine ⟨by rw [List.length_set]; have := h.nx; omega, hk, fun k z hz => ?_, fun k z hz => ?_⟩
  · rw [List.getElem?_set] at hz
    by_cases c : i = k
    · subst c; rw [if_pos rfl, if_pos hi] at hz; cases hz; exact hP
    · rw [if_neg c] at hz
      rw [ho _ (by omega) (by omega) (by omega) (by omega)]; exact h.P k z hz
  · rw [List.getElem?_set] at hz
    by_cases c : i = k
    · subst c; rw [if_pos rfl, if_pos hi] at hz; cases hz; exact hR
    · rw [if_neg c] at hz
      rw [ho _ (by omega) (by omega) (by omega) (by omega)]; exact h.R k z hz
theorem fl1 (k : IntKind) (n : Nat) : (List.replicate n [AV.i k 0]).flatten = (List.replicate n (0 : Int)).map (AV.i k) := by
  induction n with
  | zero => rfl
  | succ n ih => simp only [List.replicate_succ, List.flatten_cons, List.map_cons, ih]; rfl
theorem row_own {J : AH O} {x : DN} {c d : Nat} (hc : J.blk c = some (.cells true T_int (x.P.map (.i .i64)))) (hd : J.blk d = some (.cells true T_uint64 (x.R.map (.i .u64)))) (h1 : c < J.next) (h2 : d < J.next) (h3 : c ≠ d) : OwL J x.row (x.cells (.loc (.n c) 0 1) (.loc (.n d) 0 1)) ([c] ++ [d]) := by
  have op : Ow J (intsT 3 .i64 x.P) (.sl (.loc (.n c) 0 1) x.P.length) [c] := by
    have := Ow.leaves (J := J) (el := 3) (es := 1) (n := x.P.length) (a := .loc (.n c) 0 1) (xs := x.P.map (.i .i64)) (OwnS.new (by simp) hc h1) (flat_ints _)
    rw [<- int1_flat] at this; exact this
  have or_ : Ow J (intsT 54 .u64 x.R) (.sl (.loc (.n d) 0 1) x.R.length) [d] := by
    have := Ow.leaves (J := J) (el := 54) (es := 1) (n := x.R.length) (a := .loc (.n d) 0 1) (xs := x.R.map (.i .u64)) (OwnS.new (by simp) hd h2) (flat_ints _)
    rw [<- int1_flat] at this; exact this
  have h5 := OwL.app (OwL.im (J := J) (ImL.lfs (vs := x.h.cs) rfl)) (OwL.cons op (OwL.cons or_ (OwL.im (J := J) (ImL.lfs (vs := [.b x.gone]) rfl)) (by simp)) (by simpa using h3)) (by simp)
  simpa [DN.row, DN.cells, HV.cs] using h5
theorem dadd_ok {J : AH O} {a : SA} {D : List DN} (h : DAt a D) (hs : Small36 D) (hv : HV) :
    Ok (haymowref36_Add [.sl a D.length, .agg hv.cs] J) fun r => (∃ a', r.1 = .tup [.sl a' (addD D hv).1.length, .i .i64 (addD D hv).2.1, .i .i64 (addD D hv).2.2] /\ DAt a' (addD D hv).1) /\ Ext J r.2 := by
  obtain ⟨p, r, s, g, l⟩ := hv
  have hn := hs.n
  refine frz_D (s := haymowref36_Add_c haymowref12_Check) (rest := [.i .i64 (addD D ⟨p, r, s, g, l⟩).2.1, .i .i64 (addD D ⟨p, r, s, g, l⟩).2.2]) rfl ?_
  simp only [HV.cs]
  simp (maxSteps := 2000000) -implicitDefEqProofs (disch := (first | omega | rfl | assumption | (simp only [rsD]; first | omega | assumption))) only [haymowref36_Add_c, Nat.reduceAdd, Nat.reduceMul, Nat.reduceLT, Int.reduceToNat, Int.reduceAdd, Int.reduceSub, Int.reduceMul, rsU, rsC]
  refine Ok.step (rcheckc_ok _ p r s g l) fun q ⟨g1, g2⟩ => ?_
  obtain ⟨q, J1⟩ := q
  simp only at g1 g2
  subst g1
  have nx := g2.next
  simp only [rsD] at nx
  have hb : J1.blk J.next = some (.cells true 53 [.i .i64 p, .i .i64 r, .i .i64 s, .i .i64 g, .b l]) := (g2.blk _ (by simp)).trans s_bs
  by_cases c : chkOf p r s g = 0
  · have q0 : ((0 : Int) != 0) = false := rfl
    rw [c]
    have ad : addD D ⟨p, r, s, g, l⟩ = (D ++ [⟨⟨p, r, s, g, l⟩, List.replicate p.toNat 0, List.replicate r.toNat 0, false⟩], (D.length : Int) + 1, 0) := by
      unfold addD
      simp only [c, if_true]
    rw [ad]
    obtain ⟨hp', hr'⟩ : (0 <= p /\ p <= 4095) /\ (0 <= r /\ r <= 4095) := by
      unfold chkOf at c
      split at c
      · cases c
      · omega
    obtain ⟨vs, v1, v2, v3⟩ := h.all
    simp (maxSteps := 2000000) -implicitDefEqProofs (disch := (first | omega | rfl | assumption | (simp only [rsD]; first | omega | assumption))) only [hb, q0, v3, s_app0p, kill_next, put_next, bump_next, s_kn, Nat.reduceAdd, Nat.reduceMul, Nat.reduceLT, Int.reduceToNat, Int.reduceAdd, Int.reduceSub, Int.reduceMul, rsU, rsC]
    generalize hJ : AH.put _ (J1.next + 3 + 1 + 1) _ = J2
    have n2 : J2.next = J1.next + 7 := by rw [<- hJ]; simp only [rsD]
    have k1 : J2.blk (J1.next + 3 + 1) = some (.cells true T_haymowref36_Node vs) := by rw [<- hJ]; ((try simp only [rsD] at *); simp -implicitDefEqProofs (disch := (first | omega | rfl | assumption | (simp only [rsD]; first | omega | assumption))) only [s_bs, s_bn, s_kn, bump_blk])
    have k2 : J2.blk J1.next = some (.cells true T_int ((List.replicate p.toNat (0 : Int)).map (.i .i64))) := by rw [<- hJ, <- fl1]; ((try simp only [rsD] at *); simp -implicitDefEqProofs (disch := (first | omega | rfl | assumption | (simp only [rsD]; first | omega | assumption))) only [s_bs, s_bn, s_kn, bump_blk])
    have k3 : J2.blk (J1.next + 1) = some (.cells true T_uint64 ((List.replicate r.toNat (0 : Int)).map (.i .u64))) := by rw [<- hJ, <- fl1]; ((try simp only [rsD] at *); simp -implicitDefEqProofs (disch := (first | omega | rfl | assumption | (simp only [rsD]; first | omega | assumption))) only [s_bs, s_bn, s_kn, bump_blk])
    have E2 : Ext J J2 := by
      refine ⟨by omega, fun b hb => ?_⟩
      rw [<- hJ]
      ((have x0 := (g2).next); (try simp only [rsD] at *); simp -implicitDefEqProofs (disch := (first | omega | rfl | assumption | (simp only [rsD]; first | omega | assumption))) only [s_bs, s_bn, s_kn, bump_blk, s_ext (g2)])
    clear hJ
    refine Ok.step (app_ok (nid := J1.next + 3 + 1 + 1 + 1) (OwnS.new (J := J2) (n := D.length) (es := 8) v1 k1 (by omega)) (by simp [SA.bk]) (by omega) (m := 1) (new := [AV.i .i64 p, .i .i64 r, .i .i64 s, .i .i64 g, .b l, .sl (.loc (.n J1.next) 0 1) p.toNat, .sl (.loc (.n (J1.next + 1)) 0 1) r.toNat, .b false]) rfl) fun q ⟨a', q1, q2, q3, q4, q5⟩ => ?_
    obtain ⟨q, J3⟩ := q
    simp only at q1 q2 q3 q4
    subst q1
    simp (maxSteps := 2000000) -implicitDefEqProofs (disch := (first | omega | rfl | assumption | (simp only [rsD]; first | omega | assumption))) only [Nat.reduceAdd, Nat.reduceMul, Nat.reduceLT, Int.reduceToNat, Int.reduceAdd, Int.reduceSub, Int.reduceMul, rsU, rsC]
    have own := row_own (J := J3) (x := ⟨⟨p, r, s, g, l⟩, List.replicate p.toNat 0, List.replicate r.toNat 0, false⟩) (c := J1.next) (d := J1.next + 1) ((q4 _ (by omega) (by simp only [SA.bk, List.mem_singleton]; omega)).trans k2) ((q4 _ (by omega) (by simp only [SA.bk, List.mem_singleton]; omega)).trans k3) (by omega) (by omega) (by omega)
    have all : OwL J3 ((D ++ [(⟨⟨p, r, s, g, l⟩, List.replicate p.toNat 0, List.replicate r.toNat 0, false⟩ : DN)]).flatMap DN.row) (vs ++ [AV.i .i64 p, .i .i64 r, .i .i64 s, .i .i64 g, .b l, .sl (.loc (.n J1.next) 0 1) p.toNat, .sl (.loc (.n (J1.next + 1)) 0 1) r.toNat, .b false]) ([] ++ ([J1.next] ++ [J1.next + 1])) := by
      rw [List.flatMap_append]
      refine OwL.app (OwL.im v2) ?_ (by simp)
      simpa [DN.cells] using own
    obtain ⟨v', f1, m1⟩ := Ow.fz (t := .sl T_haymowref36_Node 8 (D.length + 1) ((D ++ [(⟨⟨p, r, s, g, l⟩, List.replicate p.toNat 0, List.replicate r.toNat 0, false⟩ : DN)]).flatMap DN.row)) (d := 6) (.sl q2.p all fun b hb hm => by
      have := q5 b hb
      simp at hm
      omega) (by
        unfold TV.deep
        intro t ht
        obtain ⟨x, _, hx⟩ := List.mem_flatMap.1 ht
        exact x.deep t hx)
    obtain ⟨a2, rfl, ha⟩ := Row.of DN.len m1 (by simp)
    refine Ok_some.2 ⟨_, _, a2, rfl, ⟨by show J.next <= J3.next; have := E2.next; omega, fun b hb => ?_⟩, f1, ha, fun b hb => ?_⟩
    · show J3.blk b = _
      rw [q4 b (by omega) (by simp [SA.bk]; omega)]; exact E2.blk b hb
    · rcases List.mem_append.1 hb with hb | hb
      · have := q5 b hb; omega
      · simp at hb; omega
  · have q0 : (chkOf p r s g != 0) = true := by simp [c]
    have ad : addD D ⟨p, r, s, g, l⟩ = (D, 0, chkOf p r s g) := by
      unfold addD
      rw [if_neg c]
    simp (maxSteps := 2000000) -implicitDefEqProofs (disch := (first | omega | rfl | assumption | (simp only [rsD]; first | omega | assumption))) only [q0, Nat.reduceAdd, Nat.reduceMul, Nat.reduceLT, Int.reduceToNat, Int.reduceAdd, Int.reduceSub, Int.reduceMul, rsU, rsC]
    rw [ad]
    refine Ok_some.2 ⟨_, [], a, rfl, ?_, fz_same h, h, by simp⟩
    exact (ext_of (by (have x0 := (g2).next); (try simp only [rsD] at *); omega) (fun b hb => by (have x0 := (g2).next); (try simp only [rsD] at *); simp -implicitDefEqProofs (disch := (first | omega | rfl | assumption | (simp only [rsD]; first | omega | assumption))) only [s_bn, s_kn, bump_blk, s_ext (g2)]))
theorem WD.get5 {J : AH O} {m : Nat} {D : List DN} (h : WD J m D) {i : Nat} {x : DN} (hx : D[i]? = some x) : (rowsW D (spW m) (srW m))[i * 8 + 5]? = some (.sl (.loc (.n (m + 4 * i + 3)) 0 1) x.P.length) := h.ld hx (by decide)
theorem WD.get6 {J : AH O} {m : Nat} {D : List DN} (h : WD J m D) {i : Nat} {x : DN} (hx : D[i]? = some x) : (rowsW D (spW m) (srW m))[i * 8 + 6]? = some (.sl (.loc (.n (m + 4 * i + 5)) 0 1) x.R.length) := h.ld hx (by decide)
theorem rows_same {D : List DN} {sp sr : Nat -> SA} {i : Nat} {x y : DN} (hx : D[i]? = some x) (h : ∀ a b, y.cells a b = x.cells a b) : rowsW (D.set i y) sp sr = rowsW D sp sr := by
  have hi := (List.getElem?_eq_some_iff.1 hx).1
  refine (rowsW_ext (by rw [rowsW_len]; simp) fun k j z hz hj => ?_).symm
  rw [List.getElem?_set] at hz
  by_cases c : i = k
  · subst c
    rw [if_pos rfl, if_pos hi] at hz; cases hz
    rw [rowsW_get _ _ _ _ _ x hx hj, h]
  · rw [if_neg c] at hz
    rw [rowsW_get _ _ _ _ _ z hz hj]
theorem dlink_ok {J : AH O} {a : SA} {D : List DN} (h : DAt a D) (hs : Small36 D) {id i to : Int} (hr : -9223372036854775808 <= id /\ id <= 9223372036854775807) (ht : -9223372036854775808 <= to /\ to <= 9223372036854775807) :
    Ok (haymowref36_Link [.sl a D.length, .i .i64 id, .i .i64 i, .i .i64 to] J) fun r => (∃ a', r.1 = .tup [.sl a' (linkD D id i to).1.length, .i .i64 (linkD D id i to).2] /\ DAt a' (linkD D id i to).1) /\ Ext J r.2 := by
  refine frz_D (s := haymowref36_Link_c haymowref36_Pointer haymowref36_Is haymowref36_copied) (rest := [.i .i64 (linkD D id i to).2]) rfl ?_
  have t0 : (true == true) = true := rfl
  have t1 : (false == true) = false := rfl
  have z0 : ((0 : Int) != 0) = false := rfl
  have z4 : ((4 : Int) != 0) = true := rfl
  have z32 : ((32 : Int) != 0) = true := rfl
  have P1 := dptr_ok (J := J) h hs hr (i := i)
  have I1 := dis_ok (J := J) h hs.n ht
  have hn := hs.n
  unfold linkD
  unfold ptrD at P1
  cases hl : liveAt D id with
  | none =>
    rw [hl] at P1
    simp only at P1
    simp (maxSteps := 2000000) -implicitDefEqProofs (disch := (first | omega | rfl | assumption | (simp only [rsD]; first | omega | assumption))) only [haymowref36_Link_c, P1, z4, Nat.reduceAdd, Nat.reduceMul, Nat.reduceLT, Int.reduceToNat, Int.reduceAdd, Int.reduceSub, Int.reduceMul, rsU, rsC]
    exact Ok_some.2 ⟨_, [], a, rfl, Ext.refl J, fz_same h, h, by simp⟩
  | some x =>
    rw [hl] at P1
    simp only at P1
    obtain ⟨k, rfl, hx, hg, hk⟩ := liveAt_some hl
    by_cases c : 0 <= i /\ i < (x.P.length : Int)
    · rw [if_pos c] at P1
      simp only at P1
      simp only [if_pos c]
      have e1 : (k : Int) + 1 - 1 = k := by omega
      obtain ⟨hcase⟩ : Nonempty ((to = 0) ∨ (to ≠ 0 /\ ∃ y, liveAt D to = some y) ∨ (to ≠ 0 /\ liveAt D to = none)) := ⟨by
        by_cases c2 : to = 0
        · exact .inl c2
        · cases h2 : liveAt D to with
          | none => exact .inr (.inr ⟨c2, rfl⟩)
          | some y => exact .inr (.inl ⟨c2, y, rfl⟩)⟩
      rcases hcase with c2 | ⟨c2, y, h2⟩ | ⟨c2, h2⟩
      rotate_left 2
      · have q0 : (to != 0) = true := by simp [c2]
        rw [h2] at I1
        simp (maxSteps := 2000000) -implicitDefEqProofs (disch := (first | omega | rfl | assumption | (simp only [rsD]; first | omega | assumption))) only [haymowref36_Link_c, P1, z0, q0, t0, I1, Option.isSome_none, Nat.reduceAdd, Nat.reduceMul, Nat.reduceLT, Int.reduceToNat, Int.reduceAdd, Int.reduceSub, Int.reduceMul, rsU, rsC]
        rw [if_pos ⟨c2, h2⟩]
        exact Ok_some.2 ⟨_, [], a, rfl, Ext.refl J, fz_same h, h, by simp⟩
      all_goals
        rw [if_neg (by simp [c2, *])]
        first
        | (have q0 : (to != 0) = false := by simp [c2]
           simp (maxSteps := 2000000) -implicitDefEqProofs (disch := (first | omega | rfl | assumption | (simp only [rsD]; first | omega | assumption))) only [haymowref36_Link_c, P1, z0, q0, t1, e1, Nat.reduceAdd, Nat.reduceMul, Nat.reduceLT, Int.reduceToNat, Int.reduceAdd, Int.reduceSub, Int.reduceMul, rsU, rsC])
        | (have q0 : (to != 0) = true := by simp [c2]
           rw [h2] at I1
           simp (maxSteps := 2000000) -implicitDefEqProofs (disch := (first | omega | rfl | assumption | (simp only [rsD]; first | omega | assumption))) only [haymowref36_Link_c, P1, z0, q0, t0, I1, Option.isSome_some, e1, Nat.reduceAdd, Nat.reduceMul, Nat.reduceLT, Int.reduceToNat, Int.reduceAdd, Int.reduceSub, Int.reduceMul, rsU, rsC])
        refine Ok.step (dcopied_ok h hs) fun r ⟨g1, g2, g3⟩ => ?_
        obtain ⟨q, J1⟩ := r
        simp only at g1 g2 g3
        subst g1
        obtain ⟨j, rfl⟩ : ∃ j : Nat, i = j := ⟨i.toNat, by omega⟩
        have gk := g2.k
        have gP := g2.P k x hx
        have w5 := g2.get5 hx
        have b5 : Nat.ble (j + 1) (x.P.map (AV.i .i64)).length = true := Nat.ble_eq_true_of_le (by simp; omega)
        have s5 : splice (x.P.map (AV.i .i64)) j [.i .i64 to] = (x.P.set j to).map (AV.i .i64) := by rw [splice_set (by simp; omega), List.map_set]
        simp (maxSteps := 2000000) -implicitDefEqProofs (disch := (first | omega | rfl | assumption | (simp only [rsD]; first | omega | assumption))) only [gk, w5, gP, b5, s5, Nat.reduceAdd, Nat.reduceMul, Nat.reduceLT, Int.reduceToNat, Int.reduceAdd, Int.reduceSub, Int.reduceMul, rsU, rsC]
        have W2 : WD (J1.put (J.next + 4 * k + 3) (.cells true T_int ((x.P.set j to).map (.i .i64)))) J.next (D.set k { x with P := x.P.set j to }) := by
          refine g2.setRow hx (Nat.le_refl _) ?_ s_bs ?_ fun b h1 h2 h3 _ => s_bn h2
          · rw [s_bn (by omega), rows_same hx fun a b => by simp [DN.cells]]; exact gk
          · rw [s_bn (by omega)]; exact g2.R k x hx
        obtain ⟨L, a', f, d, hl'⟩ := W2.fzD (J0 := J) (Nat.le_refl _)
        rw [List.length_set] at f
        refine Ok_some.2 ⟨_, L, a', rfl, ?_, ?_, d, hl'⟩
        · exact ⟨g3.next, fun b hb => by show (AH.put _ _ _).blk b = _; rw [s_bn (by omega)]; exact g3.blk b hb⟩
        · rw [List.length_set]; exact f
    · rw [if_neg c] at P1
      simp only at P1
      simp (maxSteps := 2000000) -implicitDefEqProofs (disch := (first | omega | rfl | assumption | (simp only [rsD]; first | omega | assumption))) only [haymowref36_Link_c, P1, z32, Nat.reduceAdd, Nat.reduceMul, Nat.reduceLT, Int.reduceToNat, Int.reduceAdd, Int.reduceSub, Int.reduceMul, rsU, rsC]
      simp only [if_neg c]
      exact Ok_some.2 ⟨_, [], a, rfl, Ext.refl J, fz_same h, h, by simp⟩
end Go.Abs.Try
namespace Go.Abs.Try
open Go Go.Abs
variable {O : Type}
theorem dwrite_ok {J : AH O} {a : SA} {D : List DN} (h : DAt a D) (hs : Small36 D) {id i w : Int} (hr : -9223372036854775808 <= id /\ id <= 9223372036854775807) :
    Ok (haymowref36_Write [.sl a D.length, .i .i64 id, .i .i64 i, .i .u64 w] J) fun r => (∃ a', r.1 = .tup [.sl a' (writeD D id i w).1.length, .i .i64 (writeD D id i w).2] /\ DAt a' (writeD D id i w).1) /\ Ext J r.2 := by
  refine frz_D (s := haymowref36_Write_c haymowref36_Raw haymowref36_copied) (rest := [.i .i64 (writeD D id i w).2]) rfl ?_
  have z0 : ((0 : Int) != 0) = false := rfl
  have z4 : ((4 : Int) != 0) = true := rfl
  have z32 : ((32 : Int) != 0) = true := rfl
  have P1 := draw_ok (J := J) h hs hr (i := i)
  have hn := hs.n
  unfold writeD
  unfold rawD at P1
  cases hl : liveAt D id with
  | none =>
    rw [hl] at P1
    simp only at P1
    simp (maxSteps := 2000000) -implicitDefEqProofs (disch := (first | omega | rfl | assumption | (simp only [rsD]; first | omega | assumption))) only [haymowref36_Write_c, P1, z4, Nat.reduceAdd, Nat.reduceMul, Nat.reduceLT, Int.reduceToNat, Int.reduceAdd, Int.reduceSub, Int.reduceMul, rsU, rsC]
    exact Ok_some.2 ⟨_, [], a, rfl, Ext.refl J, fz_same h, h, by simp⟩
  | some x =>
    rw [hl] at P1
    simp only at P1
    obtain ⟨k, rfl, hx, hg, hk⟩ := liveAt_some hl
    by_cases c : 0 <= i /\ i < (x.R.length : Int)
    · rw [if_pos c] at P1
      simp only at P1
      simp only [if_pos c]
      have e1 : (k : Int) + 1 - 1 = k := by omega
      simp (maxSteps := 2000000) -implicitDefEqProofs (disch := (first | omega | rfl | assumption | (simp only [rsD]; first | omega | assumption))) only [haymowref36_Write_c, P1, z0, e1, Nat.reduceAdd, Nat.reduceMul, Nat.reduceLT, Int.reduceToNat, Int.reduceAdd, Int.reduceSub, Int.reduceMul, rsU, rsC]
      refine Ok.step (dcopied_ok h hs) fun r ⟨g1, g2, g3⟩ => ?_
      obtain ⟨q, J1⟩ := r
      simp only at g1 g2 g3
      subst g1
      obtain ⟨j, rfl⟩ : ∃ j : Nat, i = j := ⟨i.toNat, by omega⟩
      have gk := g2.k
      have gR := g2.R k x hx
      have w5 := g2.get6 hx
      have b5 : Nat.ble (j + 1) (x.R.map (AV.i .u64)).length = true := Nat.ble_eq_true_of_le (by simp; omega)
      have s5 : splice (x.R.map (AV.i .u64)) j [.i .u64 w] = (x.R.set j w).map (AV.i .u64) := by rw [splice_set (by simp; omega), List.map_set]
      simp (maxSteps := 2000000) -implicitDefEqProofs (disch := (first | omega | rfl | assumption | (simp only [rsD]; first | omega | assumption))) only [gk, w5, gR, b5, s5, Nat.reduceAdd, Nat.reduceMul, Nat.reduceLT, Int.reduceToNat, Int.reduceAdd, Int.reduceSub, Int.reduceMul, rsU, rsC]
      have W2 : WD (J1.put (J.next + 4 * k + 5) (.cells true T_uint64 ((x.R.set j w).map (AV.i .u64)))) J.next (D.set k { x with R := x.R.set j w }) := by
        refine g2.setRow hx (Nat.le_refl _) ?_ ?_ s_bs fun b h1 h2 h3 _ => s_bn h3
        · rw [s_bn (by omega), rows_same hx fun a b => by simp [DN.cells]]; exact gk
        · rw [s_bn (by omega)]; exact g2.P k x hx
      obtain ⟨L, a', f, d, hl'⟩ := W2.fzD (J0 := J) (Nat.le_refl _)
      rw [List.length_set] at f
      refine Ok_some.2 ⟨_, L, a', rfl, ?_, ?_, d, hl'⟩
      · exact ⟨g3.next, fun b hb => by show (AH.put _ _ _).blk b = _; rw [s_bn (by omega)]; exact g3.blk b hb⟩
      · rw [List.length_set]; exact f
    · rw [if_neg c] at P1
      simp only at P1
      simp (maxSteps := 2000000) -implicitDefEqProofs (disch := (first | omega | rfl | assumption | (simp only [rsD]; first | omega | assumption))) only [haymowref36_Write_c, P1, z32, Nat.reduceAdd, Nat.reduceMul, Nat.reduceLT, Int.reduceToNat, Int.reduceAdd, Int.reduceSub, Int.reduceMul, rsU, rsC]
      simp only [if_neg c]
      exact Ok_some.2 ⟨_, [], a, rfl, Ext.refl J, fz_same h, h, by simp⟩
theorem dgrow_ok {J : AH O} {a : SA} {D : List DN} (h : DAt a D) (hs : Small36 D) (hw : ∀ x ∈ D, 0 <= x.h.age /\ x.h.age <= 7) {id : Int} (hr : -9223372036854775808 <= id /\ id <= 9223372036854775807) :
    Ok (haymowref36_Grow [.sl a D.length, .i .i64 id] J) fun r => (∃ a', r.1 = .tup [.sl a' (growD D id).1.length, .i .i64 (growD D id).2] /\ DAt a' (growD D id).1) /\ Ext J r.2 := by
  refine frz_D (s := haymowref36_Grow_c haymowref36_Is haymowref36_copied haymowref12_Older) (rest := [.i .i64 (growD D id).2]) rfl ?_
  have I1 := dis_ok (J := J) h hs.n hr
  have hn := hs.n
  unfold growD
  cases hl : liveAt D id with
  | none =>
    rw [hl] at I1
    simp (maxSteps := 2000000) -implicitDefEqProofs (disch := (first | omega | rfl | assumption | (simp only [rsD]; first | omega | assumption))) only [haymowref36_Grow_c, I1, Option.isSome_none, Nat.reduceAdd, Nat.reduceMul, Nat.reduceLT, Int.reduceToNat, Int.reduceAdd, Int.reduceSub, Int.reduceMul, rsU, rsC]
    exact Ok_some.2 ⟨_, [], a, rfl, Ext.refl J, fz_same h, h, by simp⟩
  | some x =>
    rw [hl] at I1
    obtain ⟨k, rfl, hx, hg, hk⟩ := liveAt_some hl
    have e1 : (k : Int) + 1 - 1 = k := by omega
    simp (maxSteps := 2000000) -implicitDefEqProofs (disch := (first | omega | rfl | assumption | (simp only [rsD]; first | omega | assumption))) only [haymowref36_Grow_c, I1, Option.isSome_some, e1, Nat.reduceAdd, Nat.reduceMul, Nat.reduceLT, Int.reduceToNat, Int.reduceAdd, Int.reduceSub, Int.reduceMul, rsU, rsC]
    refine Ok.step (dcopied_ok h hs) fun r ⟨g1, g2, g3⟩ => ?_
    obtain ⟨q, J1⟩ := r
    simp only at g1 g2 g3
    subst g1
    have gk := g2.k
    have w0 := g2.ld hx (j := 0) (by decide)
    have w1 := g2.ld hx (j := 1) (by decide)
    have w2 := g2.ld hx (j := 2) (by decide)
    have w3 := g2.ld hx (j := 3) (by decide)
    have w4 := g2.ld hx (j := 4) (by decide)
    simp only [DN.cells, Nat.add_zero, List.getElem?_cons_zero, List.getElem?_cons_succ] at w0 w1 w2 w3 w4
    simp (maxSteps := 2000000) -implicitDefEqProofs (disch := (first | omega | rfl | assumption | (simp only [rsD]; first | omega | assumption))) only [gk, w0, w1, w2, w3, w4, Nat.reduceAdd, Nat.reduceMul, Nat.reduceLT, Int.reduceToNat, Int.reduceAdd, Int.reduceSub, Int.reduceMul, rsU, rsC]
    refine Ok.step (rolder_ok J1 x.h (hw x (List.mem_of_getElem? hx))) fun r ⟨q1, q2⟩ => ?_
    obtain ⟨q, J2⟩ := r
    simp only at q1 q2
    subst q1
    have nx2 := q2.next
    have nx := g2.nx
    have gk2 := (q2.blk (J.next + 1) (by omega)).trans gk
    have lenW := rowsW_len D (spW J.next) (srW J.next)
    have b5 : Nat.ble (k * 8 + 5) (rowsW D (spW J.next) (srW J.next)).length = true := Nat.ble_eq_true_of_le (by omega)
    have s5 : splice (rowsW D (spW J.next) (srW J.next)) (k * 8) [.i .i64 (olderV x.h).p, .i .i64 (olderV x.h).r, .i .i64 (olderV x.h).site, .i .i64 (olderV x.h).age, .b (olderV x.h).large] = rowsW (D.set k { x with h := olderV x.h }) (spW J.next) (srW J.next) := by
      refine rowsW_ext (by rw [splice_len (by simp; omega), lenW]; simp) fun q j z hz hj => ?_
      rw [List.getElem?_set] at hz
      unfold splice
      rw [splice_get _ _ _ _ (by simp; omega)]
      simp only [List.length_cons, List.length_nil]
      by_cases c : k = q
      · subst c
        rw [if_pos rfl, if_pos hk] at hz; cases hz
        rw [if_neg (by omega)]
        by_cases cj : j < 5
        · rw [if_pos (by omega), show k * 8 + j - k * 8 = j by omega]
          match j, cj with
          | 0, _ => rfl
          | 1, _ => rfl
          | 2, _ => rfl
          | 3, _ => rfl
          | 4, _ => rfl
        · rw [if_neg (by omega), rowsW_get _ _ _ _ _ x hx hj]
          match j, cj, hj with
          | 5, _, _ => rfl
          | 6, _, _ => rfl
          | 7, _, _ => rfl
      · rw [if_neg c] at hz
        rw [<- rowsW_get _ _ _ _ _ z hz hj]
        by_cases c2 : q < k
        · rw [if_pos (by omega)]
        · rw [if_neg (by omega), if_neg (by omega)]
    simp (maxSteps := 2000000) -implicitDefEqProofs (disch := (first | omega | rfl | assumption | (simp only [rsD]; first | omega | assumption))) only [HV.cs, gk2, b5, s5, Nat.reduceAdd, Nat.reduceMul, Nat.reduceLT, Int.reduceToNat, Int.reduceAdd, Int.reduceSub, Int.reduceMul, rsU, rsC]
    have W1 : WD J2 J.next D := ⟨by omega, gk2, fun i y hy => by have := (List.getElem?_eq_some_iff.1 hy).1; rw [q2.blk _ (by omega)]; exact g2.P i y hy, fun i y hy => by have := (List.getElem?_eq_some_iff.1 hy).1; rw [q2.blk _ (by omega)]; exact g2.R i y hy⟩
    have W2 : WD (J2.put (J.next + 1) (.cells true T_haymowref36_Node (rowsW (D.set k { x with h := olderV x.h }) (spW J.next) (srW J.next)))) J.next (D.set k { x with h := olderV x.h }) := by
      refine W1.setRow hx (Nat.le_refl _) s_bs ?_ ?_ fun b h1 h2 h3 _ => s_bn h1
      · rw [s_bn (by omega)]; exact W1.P k x hx
      · rw [s_bn (by omega)]; exact W1.R k x hx
    obtain ⟨L, a', f, d, hl'⟩ := W2.fzD (J0 := J) (Nat.le_refl _)
    rw [List.length_set] at f
    refine Ok_some.2 ⟨_, L, a', rfl, ?_, ?_, d, hl'⟩
    · exact ⟨by show J.next <= J2.next; have := g3.next; omega, fun b hb => by show (AH.put _ _ _).blk b = _; rw [s_bn (by omega), q2.blk _ (by have := g3.next; omega)]; exact g3.blk b hb⟩
    · rw [List.length_set]; exact f
end Go.Abs.Try
namespace Go.Abs.Try
open Go Go.Abs
variable {O : Type}
def preF {α : Type} (f : α -> α) (j : Nat) (l : List α) : List α := (l.take j).map f ++ l.drop j
theorem preF_len {α : Type} {f : α -> α} {j : Nat} {l : List α} : (preF f j l).length = l.length := by simp [preF]; omega
theorem preF_ge {α : Type} {f : α -> α} {j q : Nat} {l : List α} (h : j <= q) : (preF f j l)[q]? = l[q]? := by
  unfold preF
  by_cases c : j <= l.length
  · rw [List.getElem?_append_right (by simp; omega), List.getElem?_drop]; congr 1; simp; omega
  · rw [List.getElem?_eq_none (by simp; omega), List.getElem?_eq_none (by omega)]
theorem preF_lt {α : Type} {f : α -> α} {j q : Nat} {l : List α} (h : q < j) : (preF f j l)[q]? = (l[q]?).map f := by
  unfold preF
  by_cases c : q < l.length
  · rw [List.getElem?_append_left (by simp; omega), List.getElem?_map, List.getElem?_take, if_pos h]
  · rw [List.getElem?_eq_none (by simp; omega), List.getElem?_eq_none (by omega)]; rfl
theorem preF_step {α : Type} {f : α -> α} {j : Nat} {l : List α} {v : α} (h : l[j]? = some v) : (preF f j l).set j (f v) = preF f (j + 1) l := by
  have hj := (List.getElem?_eq_some_iff.1 h).1
  apply List.ext_getElem?
  intro q
  rw [List.getElem?_set]
  by_cases c : j = q
  · subst c
    rw [if_pos rfl, if_pos (by rw [preF_len]; exact hj), preF_lt (Nat.lt_succ_self _), h]; rfl
  · rw [if_neg c]
    by_cases c2 : q < j
    · rw [preF_lt c2, preF_lt (by omega)]
    · rw [preF_ge (by omega), preF_ge (by omega)]
theorem preF_zero {α : Type} {f : α -> α} {l : List α} : preF f 0 l = l := by simp [preF]
theorem preF_all {α : Type} {f : α -> α} {l : List α} : preF f l.length l = l.map f := by simp [preF]
def zN (id t : Int) : Int := if t = id then 0 else t
theorem zeroD_P (id : Int) (x : DN) : zeroD id x = { x with P := x.P.map (zN id) } := rfl
theorem drop_inner {J : AH O} {m : Nat} {E : List DN} {i : Nat} {x : DN} {id : Int} (hs : Small36 E) (hx : E[i]? = some x) {j : Nat} (hj : j < x.P.length) (W : WD J m (E.set i { x with P := preF (zN id) j x.P })) :
    Ok (haymowref36_Drop_L2 (i : Int) (.loc (.n (m + 1)) 0 8, E.length) id ([.i .i64 (j : Int)], J)) fun r => ∃ J', r = .inl ([.i .i64 ((j + 1 : Nat) : Int)], J') /\ WD J' m (E.set i { x with P := preF (zN id) (j + 1) x.P }) /\ J'.next = J.next /\ ∀ b, b < m -> J'.blk b = J.blk b := by
  have hi := (List.getElem?_eq_some_iff.1 hx).1
  obtain ⟨sp, sr⟩ := hs.p x (List.mem_of_getElem? hx)
  have hn := hs.n
  have hx2 : (E.set i { x with P := preF (zN id) j x.P })[i]? = some { x with P := preF (zN id) j x.P } := by rw [List.getElem?_set, if_pos rfl, if_pos hi]
  have gk := W.k
  have gP := W.P i _ hx2
  have w5 := W.get5 hx2
  simp only [preF_len] at w5
  obtain ⟨v, hv⟩ : ∃ v, x.P[j]? = some v := ⟨_, List.getElem?_eq_getElem hj⟩
  have gv : ((preF (zN id) j x.P).map (AV.i .i64))[j]? = some (.i .i64 v) := by rw [List.getElem?_map, preF_ge (Nat.le_refl _), hv]; rfl
  have st := preF_step (f := zN id) hv
  have dj := decide_eq_true (show (j : Int) < (x.P.length : Int) by omega)
  have di := decide_eq_true (show (i : Int) < (E.length : Int) by omega)
  by_cases c : v = id
  · have q0 : (v == id) = true := s_eqT c
    have b5 : Nat.ble (j + 1) ((preF (zN id) j x.P).map (AV.i .i64)).length = true := Nat.ble_eq_true_of_le (by simp [preF_len]; omega)
    have s5 : splice ((preF (zN id) j x.P).map (AV.i .i64)) j [.i .i64 0] = (preF (zN id) (j + 1) x.P).map (AV.i .i64) := by
      rw [splice_set (by simp [preF_len]; omega), <- st]
      simp [zN, c]
    simp (maxSteps := 2000000) -implicitDefEqProofs (disch := (first | omega | rfl | assumption | (simp only [rsD]; first | omega | assumption))) only [haymowref36_Drop_L2, di, dj, gk, w5, gP, gv, q0, b5, s5, Nat.reduceAdd, Nat.reduceMul, Nat.reduceLT, Int.reduceToNat, Int.reduceAdd, Int.reduceSub, Int.reduceMul, rsU, rsC]
    refine Ok_some.2 ⟨_, rfl, ?_, rfl, fun b hb => s_bn (by omega)⟩
    have W2 := W.setRow (y := { x with P := preF (zN id) (j + 1) x.P }) hx2 (J' := J.put (m + 4 * i + 3) (.cells true T_int ((preF (zN id) (j + 1) x.P).map (AV.i .i64)))) (Nat.le_refl _) (by rw [s_bn (by omega), rows_same (D := E.set i { x with P := preF (zN id) j x.P }) (x := { x with P := preF (zN id) j x.P }) (y := { x with P := preF (zN id) (j + 1) x.P }) hx2 (fun a b => by simp [DN.cells, preF_len])]; exact gk) s_bs (by rw [s_bn (by omega)]; exact W.R i { x with P := preF (zN id) j x.P } hx2) fun b h1 h2 h3 _ => s_bn h2
    rw [List.set_set] at W2
    exact W2
  · have q0 : (v == id) = false := s_eqF c
    simp (maxSteps := 2000000) -implicitDefEqProofs (disch := (first | omega | rfl | assumption | (simp only [rsD]; first | omega | assumption))) only [haymowref36_Drop_L2, di, dj, gk, w5, gP, gv, q0, Nat.reduceAdd, Nat.reduceMul, Nat.reduceLT, Int.reduceToNat, Int.reduceAdd, Int.reduceSub, Int.reduceMul, rsU, rsC]
    refine Ok_some.2 ⟨_, rfl, ?_, rfl, fun b hb => rfl⟩
    have e : (preF (zN id) j x.P).set j (zN id v) = preF (zN id) j x.P := by
      rw [show zN id v = v by simp [zN, c]]
      exact set_same (by rw [preF_ge (Nat.le_refl _)]; exact hv)
    rw [<- st, e]
    exact W
theorem drop_outer {J : AH O} {m : Nat} {E : List DN} {i : Nat} {id : Int} (hs : Small36 E) (hi : i < E.length) (W : WD J m (preF (zeroD id) i E)) :
    Ok (haymowref36_Drop_L1 (.loc (.n (m + 1)) 0 8, E.length) id ([.i .i64 (i : Int)], J)) fun r => ∃ J', r = .inl ([.i .i64 ((i + 1 : Nat) : Int)], J') /\ WD J' m (preF (zeroD id) (i + 1) E) /\ J'.next = J.next /\ ∀ b, b < m -> J'.blk b = J.blk b := by
  obtain ⟨x, hx⟩ : ∃ x, E[i]? = some x := ⟨_, List.getElem?_eq_getElem hi⟩
  have hx2 : (preF (zeroD id) i E)[i]? = some x := by rw [preF_ge (Nat.le_refl _)]; exact hx
  obtain ⟨sp, sr⟩ := hs.p x (List.mem_of_getElem? hx)
  have hn := hs.n
  have hs2 : Small36 (preF (zeroD id) i E) := ⟨by rw [preF_len]; exact hn, fun y hy => by
    obtain ⟨q, hq⟩ := List.getElem?_of_mem hy
    by_cases c : q < i
    · rw [preF_lt c] at hq
      obtain ⟨z, hz, rfl⟩ := Option.map_eq_some_iff.1 hq
      have := hs.p z (List.mem_of_getElem? hz)
      simpa [zeroD] using this
    · rw [preF_ge (by omega)] at hq
      exact hs.p y (List.mem_of_getElem? hq)⟩
  have di := decide_eq_true (show (i : Int) < (E.length : Int) by omega)
  simp (maxSteps := 2000000) -implicitDefEqProofs (disch := (first | omega | rfl | assumption | (simp only [rsD]; first | omega | assumption))) only [haymowref36_Drop_L1, di, Nat.reduceAdd, Nat.reduceMul, Nat.reduceLT, Int.reduceToNat, Int.reduceAdd, Int.reduceSub, Int.reduceMul, rsU, rsC]
  refine Ok.step (Ok.count x.P.length (fun j s => ∃ J', s = ([.i .i64 (j : Int)], J') /\ WD J' m ((preF (zeroD id) i E).set i { x with P := preF (zN id) j x.P }) /\ J'.next = J.next /\ ∀ b, b < m -> J'.blk b = J.blk b) (Q := fun r => ∃ J', r = ([], J') /\ WD J' m (preF (zeroD id) (i + 1) E) /\ J'.next = J.next /\ ∀ b, b < m -> J'.blk b = J.blk b) ?_ ?_ ?_) ?_
  · rintro j s hj ⟨J', rfl, W', n', o'⟩
    have := drop_inner (id := id) hs2 hx2 hj W'
    rw [preF_len] at this
    refine this.mono ?_
    rintro _ ⟨J2, rfl, W2, n2, o2⟩
    exact ⟨J2, rfl, W2, n2.trans n', fun b hb => (o2 b hb).trans (o' b hb)⟩
  · rintro s ⟨J', rfl, W', n', o'⟩
    have hx3 : ((preF (zeroD id) i E).set i { x with P := preF (zN id) x.P.length x.P })[i]? = some { x with P := preF (zN id) x.P.length x.P } := by rw [List.getElem?_set, if_pos rfl, if_pos (by rw [preF_len]; exact hi)]
    have gk := W'.k
    have w5 := W'.get5 hx3
    simp only [preF_len] at w5
    have dj := decide_eq_false (show ¬ (x.P.length : Int) < (x.P.length : Int) by omega)
    simp (maxSteps := 2000000) -implicitDefEqProofs (disch := (first | omega | rfl | assumption | (simp only [rsD]; first | omega | assumption))) only [haymowref36_Drop_L2, di, gk, w5, dj, Nat.reduceAdd, Nat.reduceMul, Nat.reduceLT, Int.reduceToNat, Int.reduceAdd, Int.reduceSub, Int.reduceMul, rsU, rsC]
    refine Ok_some.2 ⟨J', rfl, ?_, n', o'⟩
    rw [<- preF_step hx, zeroD_P, <- preF_all]
    exact W'
  · exact ⟨J, rfl, by rw [preF_zero, set_same hx2]; exact W, rfl, fun _ _ => rfl⟩
  · rintro _ ⟨J', rfl, W', n', o'⟩
    simp (maxSteps := 2000000) -implicitDefEqProofs (disch := (first | omega | rfl | assumption | (simp only [rsD]; first | omega | assumption))) only [Nat.reduceAdd, Nat.reduceMul, Nat.reduceLT, Int.reduceToNat, Int.reduceAdd, Int.reduceSub, Int.reduceMul, rsU, rsC]
    exact Ok_some.2 ⟨J', rfl, W', n', o'⟩
theorem ddrop_ok {J : AH O} {a : SA} {D : List DN} (h : DAt a D) (hs : Small36 D) {id : Int} (hr : -9223372036854775808 <= id /\ id <= 9223372036854775807) :
    Ok (haymowref36_Drop [.sl a D.length, .i .i64 id] J) fun r => (∃ a', r.1 = .tup [.sl a' (dropD D id).1.length, .i .i64 (dropD D id).2] /\ DAt a' (dropD D id).1) /\ Ext J r.2 := by
  refine frz_D (s := haymowref36_Drop_c haymowref36_Is haymowref36_copied) (rest := [.i .i64 (dropD D id).2]) rfl ?_
  have I1 := dis_ok (J := J) h hs.n hr
  have hn := hs.n
  unfold dropD
  cases hl : liveAt D id with
  | none =>
    rw [hl] at I1
    simp (maxSteps := 2000000) -implicitDefEqProofs (disch := (first | omega | rfl | assumption | (simp only [rsD]; first | omega | assumption))) only [haymowref36_Drop_c, I1, Option.isSome_none, Nat.reduceAdd, Nat.reduceMul, Nat.reduceLT, Int.reduceToNat, Int.reduceAdd, Int.reduceSub, Int.reduceMul, rsU, rsC]
    exact Ok_some.2 ⟨_, [], a, rfl, Ext.refl J, fz_same h, h, by simp⟩
  | some x =>
    rw [hl] at I1
    obtain ⟨k, rfl, hx, hg, hk⟩ := liveAt_some hl
    have e1 : (k : Int) + 1 - 1 = k := by omega
    simp (maxSteps := 2000000) -implicitDefEqProofs (disch := (first | omega | rfl | assumption | (simp only [rsD]; first | omega | assumption))) only [haymowref36_Drop_c, I1, Option.isSome_some, e1, Nat.reduceAdd, Nat.reduceMul, Nat.reduceLT, Int.reduceToNat, Int.reduceAdd, Int.reduceSub, Int.reduceMul, rsU, rsC]
    refine Ok.step (dcopied_ok h hs) fun r ⟨g1, g2, g3⟩ => ?_
    obtain ⟨q, J1⟩ := r
    simp only at g1 g2 g3
    subst g1
    have gk := g2.k
    have nx := g2.nx
    have lenW := rowsW_len D (spW J.next) (srW J.next)
    have b5 : Nat.ble (k * 8 + 7 + 1) (rowsW D (spW J.next) (srW J.next)).length = true := Nat.ble_eq_true_of_le (by omega)
    have s5 : splice (rowsW D (spW J.next) (srW J.next)) (k * 8 + 7) [.b true] = rowsW (D.set k { x with gone := true }) (spW J.next) (srW J.next) := by
      rw [splice_set (by omega), rowsW_set (y := { x with gone := true }) hx (by decide) rfl fun q _ => ⟨rfl, rfl⟩]
    simp (maxSteps := 2000000) -implicitDefEqProofs (disch := (first | omega | rfl | assumption | (simp only [rsD]; first | omega | assumption))) only [gk, b5, s5, Nat.reduceAdd, Nat.reduceMul, Nat.reduceLT, Int.reduceToNat, Int.reduceAdd, Int.reduceSub, Int.reduceMul, rsU, rsC]
    obtain ⟨E, hE⟩ : ∃ E, E = D.set k { x with gone := true } := ⟨_, rfl⟩
    have W2 : WD (J1.put (J.next + 1) (.cells true T_haymowref36_Node (rowsW E (spW J.next) (srW J.next)))) J.next E := by
      rw [hE]
      refine g2.setRow hx (Nat.le_refl _) s_bs ?_ ?_ fun b h1 h2 h3 _ => s_bn h1
      · rw [s_bn (by omega)]; exact g2.P k x hx
      · rw [s_bn (by omega)]; exact g2.R k x hx
    have lE : D.length = E.length := by rw [hE, List.length_set]
    have sE : Small36 E := ⟨by omega, fun y hy => by
      rw [hE] at hy
      rcases List.mem_or_eq_of_mem_set hy with h1 | h1
      · exact hs.p y h1
      · subst h1; exact hs.p x (List.mem_of_getElem? hx)⟩
    rw [<- hE, lE]
    generalize hJ : AH.put J1 _ _ = J2 at *
    have x2 : J2.next = J1.next := by rw [<- hJ]; rfl
    have o2 : ∀ b, b < J.next -> J2.blk b = J1.blk b := fun b hb => by rw [<- hJ]; exact s_bn (by omega)
    clear hJ
    refine Ok.step (Ok.count E.length (fun i s => ∃ J', s = ([.i .i64 (i : Int)], J') /\ WD J' J.next (preF (zeroD ((k : Int) + 1)) i E) /\ J'.next = J2.next /\ ∀ b, b < J.next -> J'.blk b = J2.blk b) (Q := fun r => ∃ J', r = ([], J') /\ WD J' J.next (E.map (zeroD ((k : Int) + 1))) /\ J'.next = J2.next /\ ∀ b, b < J.next -> J'.blk b = J2.blk b) ?_ ?_ ?_) ?_
    · rintro i s hi ⟨J', rfl, W', n', o'⟩
      refine (drop_outer sE hi W').mono ?_
      rintro _ ⟨J3, rfl, W3, n3, o3⟩
      exact ⟨J3, rfl, W3, n3.trans n', fun b hb => (o3 b hb).trans (o' b hb)⟩
    · rintro s ⟨J', rfl, W', n', o'⟩
      simp (maxSteps := 2000000) -implicitDefEqProofs (disch := (first | omega | rfl | assumption | (simp only [rsD]; first | omega | assumption))) only [haymowref36_Drop_L1, Nat.reduceAdd, Nat.reduceMul, Nat.reduceLT, Int.reduceToNat, Int.reduceAdd, Int.reduceSub, Int.reduceMul, rsU, rsC]
      refine Ok_some.2 ⟨J', rfl, ?_, n', o'⟩
      rw [<- preF_all]; exact W'
    · exact ⟨J2, rfl, by rw [preF_zero]; exact W2, rfl, fun _ _ => rfl⟩
    · rintro _ ⟨J', rfl, W', n', o'⟩
      simp (maxSteps := 2000000) -implicitDefEqProofs (disch := (first | omega | rfl | assumption | (simp only [rsD]; first | omega | assumption))) only [Nat.reduceAdd, Nat.reduceMul, Nat.reduceLT, Int.reduceToNat, Int.reduceAdd, Int.reduceSub, Int.reduceMul, rsU, rsC]
      obtain ⟨L, a', f, d, hl'⟩ := W'.fzD (J0 := J) (Nat.le_refl _)
      rw [List.length_map] at f
      refine Ok_some.2 ⟨_, L, a', rfl, ?_, ?_, d, hl'⟩
      · exact ⟨by show J.next <= J'.next; have := g3.next; omega, fun b hb => (o' b hb).trans ((o2 b hb).trans (g3.blk b hb))⟩
      · rw [List.length_map]; exact f
end Go.Abs.Try
namespace Go.Abs.Try
open Go Go.Abs
variable {O : Type}
structure NI (J0 J : AH O) (a : SA) (l : List Int) : Prop where
  o : OwnS J 3 1 a l.length (l.map (AV.i .i64))
  e : Ext J0 J
  lo : ∀ b ∈ SA.bk a, J0.next <= b
theorem NI.nil (J : AH O) : NI J J .nil [] := ⟨OwnS.nil _ _ _, Ext.refl J, by simp [SA.bk]⟩
theorem NI.push {J0 J J1 : AH O} {a : SA} {l : List Int} (h : NI J0 J a l) {v : Int} {nid : Nat} (E : Ext J J1) (h1 : J.next <= nid) (h2 : nid < J1.next) :
    Ok (J1.appSl nid 3 1 a l.length 1 [.i .i64 v]) fun r => ∃ a', r.1 = .sl a' (l ++ [v]).length /\ NI J0 r.2 a' (l ++ [v]) /\ r.2.next = J1.next := by
  have o1 : OwnS J1 3 1 a l.length (l.map (AV.i .i64)) := h.o.of E.next fun b hb => E.blk b (h.o.lt b hb)
  refine (app_ok (nid := nid) o1 (fun hm => by have := h.o.lt _ hm; omega) h2 (m := 1) (new := [.i .i64 v]) rfl).mono ?_
  rintro ⟨q, J2⟩ ⟨a', q1, q2, q3, q4, q5⟩
  simp only at q1 q2 q3 q4
  have hl : (l ++ [v]).length = l.length + 1 := by simp
  have hm : (l ++ [v]).map (AV.i .i64) = l.map (AV.i .i64) ++ [.i .i64 v] := by simp
  have n0 := h.e.next
  refine ⟨a', by rw [hl]; exact q1, ⟨by rw [hl, hm]; exact q2, ⟨by show J0.next <= J2.next; have := E.next; omega, fun b hb => ?_⟩, fun b hb => by have := q5 b hb; omega⟩, q3⟩
  show J2.blk b = _
  rw [q4 b (by omega) (fun hm => by have := h.lo b hm; omega), E.blk b (by omega)]
  exact h.e.blk b hb
theorem NI.rd {J0 J : AH O} {a : SA} {l : List Int} (h : NI J0 J a l) : Rd J 1 a l.length (l.map (AV.i .i64)) := h.o.rd
theorem NI.low {J0 J1 J : AH O} {a : SA} {l : List Int} (h : NI J1 J a l) (e : Ext J0 J1) : NI J0 J a l := ⟨h.o, e.trans h.e, fun b hb => Nat.le_trans e.next (h.lo b hb)⟩
theorem same02r {J : AH O} {a b : SA} {l m : List Int} (ha : Rd J 1 a l.length (l.map (AV.i .i64))) (hb : Rd J 1 b m.length (m.map (AV.i .i64))) (hl : l.length <= 100000) (hm : m.length <= 100000) : Ok (haymowref02_Same [.sl a l.length, .sl b m.length] J) fun r => r = (.b (decide (l = m)), J) := by
  by_cases c : l.length = m.length
  · have q0 : ((l.length : Int) == (m.length : Int)) = true := s_eqT (by omega)
    simp (maxSteps := 2000000) -implicitDefEqProofs (disch := (first | omega | rfl | assumption | (simp only [rsD]; first | omega | assumption))) only [haymowref02_Same, haymowref02_Same_c, q0, Nat.reduceAdd, Nat.reduceMul, Nat.reduceLT, Int.reduceToNat, Int.reduceAdd, Int.reduceSub, Int.reduceMul, rsU, rsC]
    refine Ok.bindS (Q := fun r => (l = m /\ r = .inl ([], J)) ∨ (l ≠ m /\ r = .inr (.b false, J))) ?_ ?_ ?_
    · refine eq_loop c (fun k s => s = ([.i .i64 (k : Int)], J)) _ ?_ ?_ rfl
      · rintro k s hk rfl
        obtain ⟨x, hx⟩ : ∃ x, l[k]? = some x := ⟨_, List.getElem?_eq_getElem hk⟩
        obtain ⟨y, hy⟩ : ∃ y, m[k]? = some y := ⟨_, List.getElem?_eq_getElem (by omega)⟩
        obtain ⟨b1, o1, rfl, l1⟩ := ha.at1 (i := k) (v := .i .i64 x) (by rw [List.getElem?_map, hx]; rfl)
        obtain ⟨b2, o2, rfl, l2⟩ := hb.at1 (i := k) (v := .i .i64 y) (by rw [List.getElem?_map, hy]; rfl)
        rw [Nat.mul_one] at l1 l2
        rw [hx, hy]
        by_cases e : x = y
        · have q1 := s_eqT e
          simp (maxSteps := 2000000) -implicitDefEqProofs (disch := (first | omega | rfl | assumption | (simp only [rsD]; first | omega | assumption))) only [haymowref02_Same_L1, l1, l2, q1, Nat.reduceAdd, Nat.reduceMul, Nat.reduceLT, Int.reduceToNat, Int.reduceAdd, Int.reduceSub, Int.reduceMul, rsU, rsC]
          exact Ok_some.2 (by rw [if_pos (by rw [e])]; simp)
        · have q1 := s_eqF e
          simp (maxSteps := 2000000) -implicitDefEqProofs (disch := (first | omega | rfl | assumption | (simp only [rsD]; first | omega | assumption))) only [haymowref02_Same_L1, l1, l2, q1, Nat.reduceAdd, Nat.reduceMul, Nat.reduceLT, Int.reduceToNat, Int.reduceAdd, Int.reduceSub, Int.reduceMul, rsU, rsC]
          exact Ok_some.2 (by rw [if_neg (by simp [e])]; exact fun h => .inr ⟨h, rfl⟩)
      · rintro s rfl
        simp (maxSteps := 2000000) -implicitDefEqProofs (disch := (first | omega | rfl | assumption | (simp only [rsD]; first | omega | assumption))) only [haymowref02_Same_L1, Nat.reduceAdd, Nat.reduceMul, Nat.reduceLT, Int.reduceToNat, Int.reduceAdd, Int.reduceSub, Int.reduceMul, rsU, rsC]
        exact Ok_some.2 fun h => .inl ⟨h, rfl⟩
    · rintro s (⟨e, hs⟩ | ⟨_, hs⟩)
      · cases hs
        exact Ok_some.2 (by simp [e])
      · cases hs
    · rintro r (⟨_, hs⟩ | ⟨e, hs⟩)
      · cases hs
      · cases hs; simp [e]
  · have q0 : ((l.length : Int) == (m.length : Int)) = false := s_eqF (by omega)
    simp (maxSteps := 2000000) -implicitDefEqProofs (disch := (first | omega | rfl | assumption | (simp only [rsD]; first | omega | assumption))) only [haymowref02_Same, haymowref02_Same_c, q0, Nat.reduceAdd, Nat.reduceMul, Nat.reduceLT, Int.reduceToNat, Int.reduceAdd, Int.reduceSub, Int.reduceMul, rsU, rsC]
    exact Ok_some.2 (by rw [decide_eq_false (fun e => c (by rw [e]))])
theorem take_snoc {l : List Int} {k : Nat} {v : Int} (h : l[k]? = some v) : l.take (k + 1) = l.take k ++ [v] := by rw [List.take_add_one, h]; rfl
theorem dedges_ok {J : AH O} {a : SA} {D : List DN} (h : DAt a D) (hs : Small36 D) {id : Int} (hr : -9223372036854775808 <= id /\ id <= 9223372036854775807) :
    Ok (haymowref36_Edges [.sl a D.length, .i .i64 id] J) fun r => ∃ a', r.1 = .sl a' (edgesD D id).length /\ NI J r.2 a' (edgesD D id) := by
  have I1 := dis_ok (J := J) h hs.n hr
  have hn := hs.n
  unfold edgesD
  cases hl : liveAt D id with
  | none =>
    rw [hl] at I1
    simp (maxSteps := 2000000) -implicitDefEqProofs (disch := (first | omega | rfl | assumption | (simp only [rsD]; first | omega | assumption))) only [haymowref36_Edges, haymowref36_Edges_c, I1, Option.isSome_none, Nat.reduceAdd, Nat.reduceMul, Nat.reduceLT, Int.reduceToNat, Int.reduceAdd, Int.reduceSub, Int.reduceMul, rsU, rsC]
    exact Ok_some.2 ⟨.nil, rfl, NI.nil J⟩
  | some x =>
    rw [hl] at I1
    obtain ⟨i, rfl, hx, hg, hk⟩ := liveAt_some hl
    obtain ⟨b, o, c, d, rfl, ic, _, ld⟩ := h.node hx
    obtain ⟨sp, sr⟩ := hs.p x (List.mem_of_getElem? hx)
    have w : ∀ J : AH O, J.ld b (o + i * 8 + 5) = some (.sl c x.P.length) := fun J => (ld O J).2.2.2.2.2.1
    have e1 : (i : Int) + 1 - 1 = i := by omega
    simp (maxSteps := 2000000) -implicitDefEqProofs (disch := (first | omega | rfl | assumption | (simp only [rsD]; first | omega | assumption))) only [haymowref36_Edges, haymowref36_Edges_c, I1, Option.isSome_some, Nat.reduceAdd, Nat.reduceMul, Nat.reduceLT, Int.reduceToNat, Int.reduceAdd, Int.reduceSub, Int.reduceMul, rsU, rsC]
    refine Ok.step (Ok.count x.P.length (fun k s => ∃ a' J', s = ([.sl a' ((x.P.take k).filter nz).length, .i .i64 (k : Int)], J') /\ NI J J' a' ((x.P.take k).filter nz)) (Q := fun r => ∃ a' J', r = ([.sl a' (x.P.filter nz).length], J') /\ NI J J' a' (x.P.filter nz)) ?_ ?_ ?_) ?_
    · rintro k s hk ⟨a', J', rfl, N⟩
      obtain ⟨v, hv⟩ : ∃ v, x.P[k]? = some v := ⟨_, List.getElem?_eq_getElem hk⟩
      obtain ⟨b2, o2, rfl, l2⟩ := ic.at hv
      have dk := decide_eq_true (show (k : Int) < (x.P.length : Int) by omega)
      have lf : ((x.P.take k).filter nz).length <= 5000 := by have := List.length_filter_le nz (x.P.take k); simp at this; omega
      by_cases c : v = 0
      · have q0 : (v != 0) = false := by simp [c]
        simp (maxSteps := 2000000) -implicitDefEqProofs (disch := (first | omega | rfl | assumption | (simp only [rsD]; first | omega | assumption))) only [haymowref36_Edges_L1, e1, w, dk, l2, q0, Nat.reduceAdd, Nat.reduceMul, Nat.reduceLT, Int.reduceToNat, Int.reduceAdd, Int.reduceSub, Int.reduceMul, rsU, rsC]
        refine Ok_some.2 ⟨a', J', ?_, ?_⟩
        · rw [take_snoc hv]; simp [nz, c]
        · rw [take_snoc hv, List.filter_append]; simpa [nz, c] using N
      · have q0 : (v != 0) = true := by simp [c]
        simp (maxSteps := 2000000) -implicitDefEqProofs (disch := (first | omega | rfl | assumption | (simp only [rsD]; first | omega | assumption))) only [haymowref36_Edges_L1, e1, w, dk, l2, q0, Nat.reduceAdd, Nat.reduceMul, Nat.reduceLT, Int.reduceToNat, Int.reduceAdd, Int.reduceSub, Int.reduceMul, rsU, rsC]
        have E : Ext J' ((J'.bump 2).put J'.next (.cells true 3 [.i .i64 v])) := (ext_of (by simp only [put_next, bump_next, kill_next]; omega) (fun b hb => by simp -implicitDefEqProofs (disch := (first | omega | rfl | assumption | (simp only [rsD]; first | omega | assumption))) only [s_bn, s_kn, bump_blk, s_ext]))
        refine Ok.step (N.push (nid := J'.next + 1) (v := v) E (by omega) (by show _ < J'.next + 2; omega)) fun q ⟨a2, q1, q2, q3⟩ => ?_
        obtain ⟨q, J2⟩ := q
        simp only at q1 q2
        subst q1
        simp (maxSteps := 2000000) -implicitDefEqProofs (disch := (first | omega | rfl | assumption | (simp only [rsD]; first | omega | assumption))) only [Nat.reduceAdd, Nat.reduceMul, Nat.reduceLT, Int.reduceToNat, Int.reduceAdd, Int.reduceSub, Int.reduceMul, rsU, rsC]
        have ef : (x.P.take (k + 1)).filter nz = (x.P.take k).filter nz ++ [v] := by rw [take_snoc hv, List.filter_append]; simp [nz, c]
        refine Ok_some.2 ⟨a2, J2, ?_, ?_⟩
        · rw [ef]; rfl
        · rw [ef]; exact q2
    · rintro s ⟨a', J', rfl, N⟩
      have dk := decide_eq_false (show ¬ (x.P.length : Int) < (x.P.length : Int) by omega)
      simp (maxSteps := 2000000) -implicitDefEqProofs (disch := (first | omega | rfl | assumption | (simp only [rsD]; first | omega | assumption))) only [haymowref36_Edges_L1, e1, w, dk, Nat.reduceAdd, Nat.reduceMul, Nat.reduceLT, Int.reduceToNat, Int.reduceAdd, Int.reduceSub, Int.reduceMul, rsU, rsC]
      rw [List.take_length] at N
      exact Ok_some.2 ⟨a', J', rfl, N⟩
    · exact ⟨.nil, J, rfl, NI.nil J⟩
    · rintro _ ⟨a', J', rfl, N⟩
      simp (maxSteps := 2000000) -implicitDefEqProofs (disch := (first | omega | rfl | assumption | (simp only [rsD]; first | omega | assumption))) only [Nat.reduceAdd, Nat.reduceMul, Nat.reduceLT, Int.reduceToNat, Int.reduceAdd, Int.reduceSub, Int.reduceMul, rsU, rsC]
      exact Ok_some.2 ⟨a', rfl, N⟩
end Go.Abs.Try
