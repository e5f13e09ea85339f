/-
  The document of layer 20 (evac): where each object of a list is. No conditions.
-/
import Derived.Test.YtncohicmiihjiaaGreatL21
set_option linter.unusedVariables false
set_option linter.unusedSimpArgs false
set_option linter.constructorNameAsVariable false
set_option linter.unusedSimpArgs false
set_option linter.unusedVariables false
set_option linter.unusedSectionVars false
set_option maxHeartbeats 4000000
namespace Go.Abs.Tryz
open Go Go.Abs
variable {O : Type}
def intsN (l : List Int) : TV := .sl T_int 1 l.length (l.flatMap (int1 .i64))
theorem intsN_un {l : List Int} {v : AV} (h : Im (intsN l) v) : ∃ a, v = .sl a l.length /\ Ints .i64 a l := Row.of (int1_len .i64) h rfl
theorem intsN_mk {l : List Int} {a : SA} (h : Ints .i64 a l) : Im (intsN l) (.sl a l.length) := h.im _
structure S20 where
 l : List OV
 now : List Int
 top : Int
 mv : List Int
 steps : Int
def S20.ts (s : S20) : List TV := [.sl T_haymowref16_Object 8 s.l.length (s.l.flatMap OV.row), intsU s.now, .lf (.i .i64 s.top), intsN s.mv, .lf (.i .i64 s.steps)]
def S20.cells (s : S20) (a b c : SA) : List AV := [.sl a s.l.length, .sl b s.now.length, .i .i64 s.top, .sl c s.mv.length, .i .i64 s.steps]
structure S20.At (s : S20) (a b c : SA) : Prop where
 l : OAt a s.l
 now : Ints .u64 b s.now
 mv : Ints .i64 c s.mv
theorem S20.un {s : S20} {us : List AV} (h : ImL s.ts us) : ∃ a b c, us = s.cells a b c /\ s.At a b c := by
 unfold S20.ts at h
 cases h with
 | cons h0 h => cases h with
 | cons h1 h => cases h with
 | cons h2 h => cases h with
 | cons h3 h => cases h with
 | cons h4 h => cases h with
 | nil =>
  obtain ⟨a, rfl, ia⟩ := Row.of OV.len h0 rfl
  obtain ⟨b, rfl, ib⟩ := intsU_un h1
  obtain ⟨c, rfl, ic⟩ := intsN_un h3
  rw [h2.leaf, h4.leaf]
  exact ⟨a, b, c, rfl, ia, ib, ic⟩
theorem S20.mk_ {s : S20} {a b c : SA} (h : s.At a b c) : ImL s.ts (s.cells a b c) :=
 .cons (h.l.im _) (.cons (intsU_mk h.now) (.cons (.lf rfl) (.cons (intsN_mk h.mv) (.cons (.lf rfl) .nil))))
theorem S20.deep (s : S20) : ∀ t ∈ s.ts, t.deep 5 := by
 have hint : ∀ (k : IntKind) (l : List Int), ∀ t ∈ l.flatMap (int1 k), t.deep 4 := fun k l t ht => by
  obtain ⟨n, _, hn⟩ := List.mem_flatMap.1 ht
  simp only [int1, List.mem_singleton] at hn
  subst hn; exact trivial
 intro t ht
 simp only [S20.ts, List.mem_cons, List.not_mem_nil, or_false] at ht
 rcases ht with rfl | rfl | rfl | rfl | rfl
 ·intro t ht
  obtain ⟨x, _, hx⟩ := List.mem_flatMap.1 ht
  exact x.deep t hx
 ·exact hint _ _
 ·exact trivial
 ·exact hint _ _
 ·exact trivial
theorem S20.deep6 (s : S20) : ∀ t ∈ s.ts, t.deep 6 := by
 have hint : ∀ (k : IntKind) (l : List Int), ∀ t ∈ l.flatMap (int1 k), t.deep 5 := fun k l t ht => by
  obtain ⟨n, _, hn⟩ := List.mem_flatMap.1 ht
  simp only [int1, List.mem_singleton] at hn
  subst hn; exact trivial
 have h4 : ∀ (x : OV), ∀ t ∈ x.row, t.deep 5 := by
  intro x t ht
  simp only [OV.row, Hd.av, List.map_cons, List.map_nil, List.cons_append, List.nil_append, List.mem_cons, List.not_mem_nil, or_false] at ht
  have hint : ∀ (l : List Int), ∀ t ∈ l.flatMap (int1 .u64), t.deep 4 := fun l t ht => by
   obtain ⟨n, _, hn⟩ := List.mem_flatMap.1 ht
   simp only [int1, List.mem_singleton] at hn
   subst hn; exact trivial
  rcases ht with rfl | rfl | rfl | rfl | rfl | rfl | rfl | rfl
  ·exact trivial
  ·exact trivial
  ·exact trivial
  ·exact trivial
  ·exact trivial
  ·exact hint _
  ·exact hint _
  ·exact trivial
 intro t ht
 simp only [S20.ts, List.mem_cons, List.not_mem_nil, or_false] at ht
 rcases ht with rfl | rfl | rfl | rfl | rfl
 ·intro t ht
  obtain ⟨x, _, hx⟩ := List.mem_flatMap.1 ht
  exact h4 x t hx
 ·exact hint _ _
 ·exact trivial
 ·exact hint _ _
 ·exact trivial
def S20.new (l : List OV) : S20 := ⟨l, List.replicate l.length 0, 0, [], 0⟩
theorem rnew20_ok {J : AH O} {a : SA} {l : List OV} (ha : OAt a l) (hn : l.length <= 1000) : Ok (qah [.sl a l.length] J) fun q => (∃ a' b c, q.1 = .agg ((S20.new l).cells a' b c) /\ (S20.new l).At a' b c) /\ Ext J q.2 := by
 refine (frz_agg (ts := (S20.new l).ts) (s := qag) (S20.new l).deep6 ?_).mono fun q ⟨⟨vs, g1, g2⟩, g3⟩ => ?_
 ·simp (maxSteps := 2000000) -implicitDefEqProofs (disch := (first | omega | rfl | assumption | (simp only [rsD]; first | omega | assumption))) only [qag, Nat.reduceAdd, Nat.reduceMul, Nat.reduceLT, Int.reduceToNat, Int.reduceAdd, Int.reduceSub, Int.reduceMul, rsU, rsC]
  have fl := fl1' .u64 l.length
  generalize hJ : AH.put _ J.next _ = J1
  have n1 : J1.next = J.next + 2 := by rw [<- hJ]; simp only [rsD]
  have b1 : J1.blk (J.next + 1) = some (.cells true T_uint64 ((List.replicate l.length (0 : Int)).map (.i .u64))) := by rw [<- hJ, <- fl]; ((try simp only [rsD] at *); simp -implicitDefEqProofs (disch := (first | omega | rfl | assumption | (simp only [rsD]; first | omega | assumption))) only [s_bs, s_bn, s_kn, bump_blk])
  have E1 : Ext J J1 := by
   refine ⟨by omega, fun b hb => ?_⟩
   rw [<- hJ]
   ((try simp only [rsD] at *); simp -implicitDefEqProofs (disch := (first | omega | rfl | assumption | (simp only [rsD]; first | omega | assumption))) only [s_bs, s_bn, s_kn, bump_blk])
  clear hJ
  have on : Ow J1 (intsU (List.replicate l.length 0)) (.sl (.loc (.n (J.next + 1)) 0 1) l.length) [J.next + 1] := by
   have := Ow.leaves (J := J1) (el := T_uint64) (es := 1) (n := (List.replicate l.length (0 : Int)).length) (a := .loc (.n (J.next + 1)) 0 1) (xs := (List.replicate l.length (0 : Int)).map (.i .u64)) (OwnS.new (by simp) b1 (by omega)) (flat_ints _)
   rw [<- int1_flat] at this
   unfold intsU
   rw [List.length_replicate] at this ⊢
   exact this
  refine Ok_some.2 ⟨_, rfl, E1, [] ++ ([J.next + 1] ++ []), .cons (.im (ha.im _)) (.cons on (OwL.im (.cons (.lf rfl) (.cons (intsN_mk (l := []) (Row.nil (int1_len .i64))) (.cons (.lf rfl) .nil)))) (by simp)) (by simp), fun b hb => by simp at hb; omega⟩
 ·obtain ⟨a', b, c, rfl, g4⟩ := S20.un g2
  exact ⟨⟨a', b, c, g1, g4⟩, g3⟩
end Go.Abs.Tryz
set_option maxHeartbeats 8000000
namespace Go.Abs.Tryz
open Go Go.Abs
variable {O : Type}
set_option maxRecDepth 100000 in
theorem rmove20_nil {J : AH O} {s : S20} {a b c : SA} (hs : s.At a b c) {i : Int} (hi : i < 0) : Ok (qar [.agg (s.cells a b c), .i .i64 i] J) fun q => (∃ a' b' c', q.1 = .tup [.agg (s.cells a' b' c'), .i .u64 0] /\ s.At a' b' c') /\ Ext J q.2 := by
 refine (frz_aggs (ts := s.ts) (s := qaq qrg qam) (rest := [.i .u64 0]) s.deep rfl ?_).mono fun q ⟨⟨vs, g1, g2⟩, g3⟩ => ?_
 ·have d := decide_eq_true hi
  simp only [S20.cells]
  simp -implicitDefEqProofs only [qaq, d, Nat.reduceAdd, Nat.reduceMul, Nat.reduceLT, Int.reduceToNat, Int.reduceAdd, Int.reduceSub, Int.reduceMul, rsU, s_ldI, s_ldU, s_ldS, s_ldP, s_gtI, s_gtU, s_gtS, s_bleD, Nat.reduceLeDiff, decide_true, decide_false]
  simp (maxSteps := 2000000) -implicitDefEqProofs (disch := (first | omega | rfl | assumption | (simp only [rsD]; first | omega | assumption))) only [Nat.reduceAdd, Nat.reduceMul, Nat.reduceLT, Int.reduceToNat, Int.reduceAdd, Int.reduceSub, Int.reduceMul, rsU, rsC]
  refine Ok_some.2 ⟨_, rfl, New.im (S20.mk_ hs) (ext_of (by simp only [put_next, bump_next, kill_next]; omega) (fun b hb => by simp -implicitDefEqProofs (disch := (first | omega | rfl | assumption | (simp only [rsD]; first | omega | assumption))) only [s_bn, s_kn, bump_blk, s_ext]))⟩
 ·obtain ⟨a', b', c', rfl, g4⟩ := S20.un g2
  exact ⟨⟨a', b', c', g1, g4⟩, g3⟩
def S20.again (s : S20) (l : Bool) : S20 := { s with steps := s.steps + if l then 2 else 1 }
set_option maxRecDepth 100000 in
theorem rmove20_old {J : AH O} {s : S20} {a b c : SA} (hs : s.At a b c) (hn : s.l.length <= 1000) {i : Nat} {o : OV} (ho : s.l[i]? = some o) {x : Int} (hx : s.now[i]? = some x) (x0 : x ≠ 0) (h5 : 0 <= s.steps /\ s.steps <= 1000000) : Ok (qar [.agg (s.cells a b c), .i .i64 (i : Int)] J) fun q => (∃ a' b' c', q.1 = .tup [.agg ((s.again o.h.l).cells a' b' c'), .i .u64 x] /\ (s.again o.h.l).At a' b' c') /\ Ext J q.2 := by
 refine (frz_aggs (ts := (s.again o.h.l).ts) (s := qaq qrg qam) (rest := [.i .u64 x]) (s.again o.h.l).deep rfl ?_).mono fun q ⟨⟨vs, g1, g2⟩, g3⟩ => ?_
 ·have il := (List.getElem?_eq_some_iff.1 ho).1
  have inl := (List.getElem?_eq_some_iff.1 hx).1
  have d : decide ((i : Int) < 0) = false := decide_eq_false (by omega)
  obtain ⟨bb, oo, cP, cR, rfl, hP, hR, hld⟩ := hs.l.obj ho
  have ld := hld O
  have l0 := fun J : AH O => (ld J).1
  have l1 := fun J : AH O => (ld J).2.1
  have l2 := fun J : AH O => (ld J).2.2.1
  have l3 := fun J : AH O => (ld J).2.2.2.1
  have l4 := fun J : AH O => (ld J).2.2.2.2.1
  have l5 := fun J : AH O => (ld J).2.2.2.2.2.1
  have l6 := fun J : AH O => (ld J).2.2.2.2.2.2.1
  have l7 := fun J : AH O => (ld J).2.2.2.2.2.2.2
  obtain ⟨b2, o2, rfl, hl2⟩ := hs.now.at hx
  have n0 := fun J : AH O => hl2 O J
  have xz : (x == 0) = false := by rw [beq_eq_false_iff_ne]; exact x0
  simp only [S20.cells]
  have u01 : ∀ (τ : AH O) (x : Blk O), (τ.put (J.next + 1) x).blk J.next = τ.blk J.next := fun τ x => s_bn (by omega)
  have u02 : ∀ (τ : AH O) (x : Blk O), (τ.put (J.next + 2) x).blk J.next = τ.blk J.next := fun τ x => s_bn (by omega)
  have u12 : ∀ (τ : AH O) (x : Blk O), (τ.put (J.next + 2) x).blk (J.next + 1) = τ.blk (J.next + 1) := fun τ x => s_bn (by omega)
  have u10 : ∀ (τ : AH O) (x : Blk O), (τ.put J.next x).blk (J.next + 1) = τ.blk (J.next + 1) := fun τ x => s_bn (by omega)
  have u20 : ∀ (τ : AH O) (x : Blk O), (τ.put J.next x).blk (J.next + 2) = τ.blk (J.next + 2) := fun τ x => s_bn (by omega)
  have u21 : ∀ (τ : AH O) (x : Blk O), (τ.put (J.next + 1) x).blk (J.next + 2) = τ.blk (J.next + 2) := fun τ x => s_bn (by omega)
  have i0 : decide ((0 : Int) <= (i : Int)) = true := decide_eq_true (by omega)
  have i1 : decide ((i : Int) < (s.l.length : Int)) = true := decide_eq_true (by omega)
  have i2 : decide ((i : Int) < (s.now.length : Int)) = true := decide_eq_true (by omega)
  have w1 : IntKind.i64.wrap (s.steps + 1) = s.steps + 1 := s_i64 (by omega)
  have w2 : IntKind.i64.wrap (s.steps + 2) = s.steps + 2 := s_i64 (by omega)
  cases hl : o.h.l with
  | true =>
   rw [hl] at l4
   simp -implicitDefEqProofs only [qaq, d, Nat.reduceAdd, Nat.reduceMul, Nat.reduceLT, Int.reduceToNat, Int.reduceAdd, Int.reduceSub, Int.reduceMul, rsU, s_ldI, s_ldU, s_ldS, s_ldP, s_gtI, s_gtU, s_gtS, s_bleD, Nat.reduceLeDiff, decide_true, decide_false]
   simp -implicitDefEqProofs only [u01, u02, u12, u10, u20, u21, i0, i1, i2, Bool.and_true, Int.toNat_natCast, l0, l1, l2, l3, l4, l5, l6, l7, n0, bne, xz, Bool.not_false, Nat.mul_one, w1, w2, Nat.reduceAdd, Nat.reduceMul, Nat.reduceLT, Int.reduceToNat, Int.reduceAdd, Int.reduceSub, Int.reduceMul, rsU, s_ldI, s_ldU, s_ldS, s_ldP, s_gtI, s_gtU, s_gtS, s_bleD, Nat.reduceLeDiff, decide_true, decide_false]
   exact Ok_some.2 ⟨_, rfl, New.im (S20.mk_ (s := s.again true) ⟨hs.l, hs.now, hs.mv⟩) (ext_of (by simp only [put_next, bump_next, kill_next]; omega) (fun b hb => by simp -implicitDefEqProofs (disch := (first | omega | rfl | assumption | (simp only [rsD]; first | omega | assumption))) only [s_bn, s_kn, bump_blk, s_ext]))⟩
  | false =>
   rw [hl] at l4
   simp -implicitDefEqProofs only [qaq, d, Nat.reduceAdd, Nat.reduceMul, Nat.reduceLT, Int.reduceToNat, Int.reduceAdd, Int.reduceSub, Int.reduceMul, rsU, s_ldI, s_ldU, s_ldS, s_ldP, s_gtI, s_gtU, s_gtS, s_bleD, Nat.reduceLeDiff, decide_true, decide_false]
   simp -implicitDefEqProofs only [u01, u02, u12, u10, u20, u21, i0, i1, i2, Bool.and_true, Int.toNat_natCast, l0, l1, l2, l3, l4, l5, l6, l7, n0, bne, xz, Bool.not_false, Nat.mul_one, w1, w2, Nat.reduceAdd, Nat.reduceMul, Nat.reduceLT, Int.reduceToNat, Int.reduceAdd, Int.reduceSub, Int.reduceMul, rsU, s_ldI, s_ldU, s_ldS, s_ldP, s_gtI, s_gtU, s_gtS, s_bleD, Nat.reduceLeDiff, decide_true, decide_false]
   exact Ok_some.2 ⟨_, rfl, New.im (S20.mk_ (s := s.again false) ⟨hs.l, hs.now, hs.mv⟩) (ext_of (by simp only [put_next, bump_next, kill_next]; omega) (fun b hb => by simp -implicitDefEqProofs (disch := (first | omega | rfl | assumption | (simp only [rsD]; first | omega | assumption))) only [s_bn, s_kn, bump_blk, s_ext]))⟩
 ·obtain ⟨a', b', c', rfl, g4⟩ := S20.un g2
  exact ⟨⟨a', b', c', g1, g4⟩, g3⟩
end Go.Abs.Tryz
namespace Go.Abs.Tryz
open Go Go.Abs
variable {O : Type}
def OV.n (o : OV) : Nat := 1 + o.P.length + o.R.length
def S20.went (s : S20) (o : OV) : OV := { o with h := o.h.older, word := if o.h.l then o.word else 2 * s.top + 1 }
def S20.moved (s : S20) (i : Nat) (o : OV) : S20 := ⟨s.l.set i (s.went o), s.now.set i (s.went o).word, if o.h.l then s.top else s.top + o.n, s.mv ++ [(i : Int)], s.steps + if o.h.l then 18 else 2 * (o.n : Int) + 3⟩
set_option maxRecDepth 100000 in
theorem rmove20_new {J : AH O} {s : S20} {a b c : SA} (hs : s.At a b c) (hn : s.l.length <= 1000) (hnn : s.now.length <= 1000) (hm : s.mv.length <= 1000) {i : Nat} {o : OV} (ho : s.l[i]? = some o) (hx : s.now[i]? = some 0) (h5 : 0 <= s.steps /\ s.steps <= 1000000) (ht : 0 <= s.top /\ s.top <= 1000000) (ok : o.h.ok) (hP : o.P.length <= 1000) (hR : o.R.length <= 1000) : Ok (qar [.agg (s.cells a b c), .i .i64 (i : Int)] J) fun q => (∃ a' b' c', q.1 = .tup [.agg ((s.moved i o).cells a' b' c'), .i .u64 (s.went o).word] /\ (s.moved i o).At a' b' c') /\ Ext J q.2 := by
 refine (frz_aggs (ts := (s.moved i o).ts) (s := qaq qrg qam) (rest := [.i .u64 (s.went o).word]) (s.moved i o).deep rfl ?_).mono fun q ⟨⟨vs, g1, g2⟩, g3⟩ => ?_
 ·have il := (List.getElem?_eq_some_iff.1 ho).1
  have inl := (List.getElem?_eq_some_iff.1 hx).1
  have d : decide ((i : Int) < 0) = false := decide_eq_false (by omega)
  obtain ⟨bb, oo, cP, cR, rfl, hiP, hiR, hld⟩ := hs.l.obj ho
  have ld := hld O
  have l0 := fun J : AH O => (ld J).1
  have l1 := fun J : AH O => (ld J).2.1
  have l2 := fun J : AH O => (ld J).2.2.1
  have l3 := fun J : AH O => (ld J).2.2.2.1
  have l4 := fun J : AH O => (ld J).2.2.2.2.1
  have l5 := fun J : AH O => (ld J).2.2.2.2.2.1
  have l6 := fun J : AH O => (ld J).2.2.2.2.2.2.1
  have l7 := fun J : AH O => (ld J).2.2.2.2.2.2.2
  obtain ⟨vs, v1, v2, v3⟩ := hs.l.all
  have rN : ∀ J : AH O, J.rdSl b s.now.length 1 = some (s.now.map (AV.i .u64)) := fun J => (hs.now.imm O J).rdSl
  have rM : ∀ J : AH O, J.rdSl c s.mv.length 1 = some (s.mv.map (AV.i .i64)) := fun J => (hs.mv.imm O J).rdSl
  obtain ⟨b2, o2, rfl, hl2⟩ := hs.now.at hx
  have n0 := fun J : AH O => hl2 O J
  have z0 : ((0 : Int) == 0) = true := rfl
  have u01 : ∀ (τ : AH O) (x : Blk O), (τ.put (J.next + 1) x).blk J.next = τ.blk J.next := fun τ x => s_bn (by omega)
  have u02 : ∀ (τ : AH O) (x : Blk O), (τ.put (J.next + 2) x).blk J.next = τ.blk J.next := fun τ x => s_bn (by omega)
  have i0 : decide ((0 : Int) <= (i : Int)) = true := decide_eq_true (by omega)
  have i1 : decide ((i : Int) < (s.l.length : Int)) = true := decide_eq_true (by omega)
  have i2 : decide ((i : Int) < (s.now.length : Int)) = true := decide_eq_true (by omega)
  simp only [S20.cells]
  simp -implicitDefEqProofs only [qaq, d, Nat.reduceAdd, Nat.reduceMul, Nat.reduceLT, Int.reduceToNat, Int.reduceAdd, Int.reduceSub, Int.reduceMul, rsU, s_ldI, s_ldU, s_ldS, s_ldP, s_gtI, s_gtU, s_gtS, s_bleD, Nat.reduceLeDiff, decide_true, decide_false]
  simp -implicitDefEqProofs only [u01, u02, i0, i1, i2, Bool.and_true, Int.toNat_natCast, l0, l1, l2, l3, l4, l5, l6, l7, n0, bne, z0, Bool.not_true, Nat.mul_one, Nat.reduceAdd, Nat.reduceMul, Nat.reduceLT, Int.reduceToNat, Int.reduceAdd, Int.reduceSub, Int.reduceMul, rsU, s_ldI, s_ldU, s_ldS, s_ldP, s_gtI, s_gtU, s_gtS, s_bleD, Nat.reduceLeDiff, decide_true, decide_false]
  simp (maxSteps := 2000000) -implicitDefEqProofs (disch := (first | omega | rfl | assumption | (simp only [rsD]; first | omega | assumption))) only [rN, v3, s_app0q, kill_next, put_next, bump_next, s_kn, Nat.reduceAdd, Nat.reduceMul, Nat.reduceLT, Int.reduceToNat, Int.reduceAdd, Int.reduceSub, Int.reduceMul, rsU, rsC]
  generalize hJ : AH.put _ J.next _ = J1
  have n1 : J1.next = J.next + 7 := by rw [<- hJ]; simp only [rsD]
  have b0 : J1.blk J.next = some (.cells true 63 [.sl (.loc (.n (J.next + 6)) 0 8) s.l.length, .sl (.loc (.n (J.next + 4)) 0 1) s.now.length, .i .i64 s.top, .sl c s.mv.length, .i .i64 s.steps]) := by rw [<- hJ]; exact s_bs
  have b1 : J1.blk (J.next + 1) = some (.cells true 63 [.sl .nil 0, .sl .nil 0, .i .i64 0, .sl .nil 0, .i .i64 0]) := by rw [<- hJ]; ((try simp only [rsD] at *); simp -implicitDefEqProofs (disch := (first | omega | rfl | assumption | (simp only [rsD]; first | omega | assumption))) only [s_bs, s_bn, s_kn, bump_blk])
  have bo : J1.blk (J.next + 2) = some (.cells true 42 [.i .i64 (o.h.p : Int), .i .i64 (o.h.r : Int), .i .i64 (o.h.s : Int), .i .i64 (o.h.g : Int), .b o.h.l, .sl cP o.P.length, .sl cR o.R.length, .i .u64 o.word]) := by rw [<- hJ]; ((try simp only [rsD] at *); simp -implicitDefEqProofs (disch := (first | omega | rfl | assumption | (simp only [rsD]; first | omega | assumption))) only [s_bs, s_bn, s_kn, bump_blk])
  have bN : J1.blk (J.next + 4) = some (.cells true 33 (s.now.map (.i .u64))) := by rw [<- hJ]; ((try simp only [rsD] at *); simp -implicitDefEqProofs (disch := (first | omega | rfl | assumption | (simp only [rsD]; first | omega | assumption))) only [s_bs, s_bn, s_kn, bump_blk])
  have bL : J1.blk (J.next + 6) = some (.cells true 42 vs) := by rw [<- hJ]; ((try simp only [rsD] at *); simp -implicitDefEqProofs (disch := (first | omega | rfl | assumption | (simp only [rsD]; first | omega | assumption))) only [s_bs, s_bn, s_kn, bump_blk])
  have E1 : Ext J J1 := by
   refine ⟨by omega, fun b hb => ?_⟩
   rw [<- hJ]
   ((try simp only [rsD] at *); simp -implicitDefEqProofs (disch := (first | omega | rfl | assumption | (simp only [rsD]; first | omega | assumption))) only [s_bs, s_bn, s_kn, bump_blk])
  clear hJ u01 u02
  refine Ok.step (rolderH_ok J1 ok) fun q ⟨g1, g2⟩ => ?_
  obtain ⟨q, J2⟩ := q
  simp only at g1 g2
  subst g1
  have n2 := g2.next
  have b0 := (g2.blk _ (by omega)).trans b0
  have b1 := (g2.blk _ (by omega)).trans b1
  have bo := (g2.blk _ (by omega)).trans bo
  have bN := (g2.blk _ (by omega)).trans bN
  have bL := (g2.blk _ (by omega)).trans bL
  have E2 := E1.trans g2
  simp only [Hd.av]
  have hol : o.h.older.l = o.h.l := rfl
  have ew : (s.went o).word = if o.h.l then o.word else 2 * s.top + 1 := rfl
  have et : (s.moved i o).top = if o.h.l then s.top else s.top + o.n := rfl
  have es : (s.moved i o).steps = s.steps + if o.h.l then 18 else 2 * (o.n : Int) + 3 := rfl
  cases hl : o.h.l
  case' true =>
   rw [hl] at hol ew et es
   simp only [if_true] at ew et es
   simp (maxSteps := 2000000) -implicitDefEqProofs (disch := (first | omega | rfl | assumption | (simp only [rsD]; first | omega | assumption))) only [b0, bo, hol, Nat.reduceAdd, Nat.reduceMul, Nat.reduceLT, Int.reduceToNat, Int.reduceAdd, Int.reduceSub, Int.reduceMul, rsU, rsC]
   generalize hJ : AH.put _ J.next _ = J3
   have n3 : J.next + 7 <= J3.next := by rw [<- hJ]; simp only [rsD]; omega
   have k0 : J3.blk J.next = some (.cells true 63 [.sl (.loc (.n (J.next + 6)) 0 8) s.l.length, .sl (.loc (.n (J.next + 4)) 0 1) s.now.length, .i .i64 (s.moved i o).top, .sl c s.mv.length, .i .i64 (s.moved i o).steps]) := by rw [<- hJ, et, es]; exact s_bs
   have k1 := (show J3.blk (J.next + 1) = J2.blk (J.next + 1) by rw [<- hJ]; ((try simp only [rsD] at *); simp -implicitDefEqProofs (disch := (first | omega | rfl | assumption | (simp only [rsD]; first | omega | assumption))) only [s_bs, s_bn, s_kn, bump_blk])).trans b1
   have ko : J3.blk (J.next + 2) = some (.cells true 42 [.i .i64 (o.h.older.p : Int), .i .i64 (o.h.older.r : Int), .i .i64 (o.h.older.s : Int), .i .i64 (o.h.older.g : Int), .b o.h.older.l, .sl cP o.P.length, .sl cR o.R.length, .i .u64 (s.went o).word]) := by rw [<- hJ, ew, hol]; ((try simp only [rsD] at *); simp -implicitDefEqProofs (disch := (first | omega | rfl | assumption | (simp only [rsD]; first | omega | assumption))) only [s_bs, s_bn, s_kn, bump_blk])
   have kN := (show J3.blk (J.next + 4) = J2.blk (J.next + 4) by rw [<- hJ]; ((try simp only [rsD] at *); simp -implicitDefEqProofs (disch := (first | omega | rfl | assumption | (simp only [rsD]; first | omega | assumption))) only [s_bs, s_bn, s_kn, bump_blk])).trans bN
   have kL := (show J3.blk (J.next + 6) = J2.blk (J.next + 6) by rw [<- hJ]; ((try simp only [rsD] at *); simp -implicitDefEqProofs (disch := (first | omega | rfl | assumption | (simp only [rsD]; first | omega | assumption))) only [s_bs, s_bn, s_kn, bump_blk])).trans bL
   have E3 : Ext J J3 := by
    refine ⟨by omega, fun b hb => ?_⟩
    rw [<- hJ]
    ((try simp only [rsD] at *); simp -implicitDefEqProofs (disch := (first | omega | rfl | assumption | (simp only [rsD]; first | omega | assumption))) only [s_bs, s_bn, s_kn, bump_blk])
    exact E2.blk b hb
   clear hJ
   have gN := bN
   rw [<- ew]
  case' false =>
   rw [hl] at hol ew et es
   simp only [Bool.false_eq_true, if_false] at ew et es
   simp (maxSteps := 2000000) -implicitDefEqProofs (disch := (first | omega | rfl | assumption | (simp only [rsD]; first | omega | assumption))) only [b0, bo, hol, Nat.reduceAdd, Nat.reduceMul, Nat.reduceLT, Int.reduceToNat, Int.reduceAdd, Int.reduceSub, Int.reduceMul, rsU, rsC]
   generalize hJ : AH.put J2 (J.next + 2) _ = J4
   have n4 : J4.next = J2.next := by rw [<- hJ]; rfl
   have c4 : Chg [J.next + 2] J2 J4 := ⟨by omega, fun b hb hm => by rw [<- hJ]; exact s_bn (by simpa using hm)⟩
   have fo : J4.blk (J.next + 2) = some (.cells true 42 [.i .i64 (o.h.older.p : Int), .i .i64 (o.h.older.r : Int), .i .i64 (o.h.older.s : Int), .i .i64 (o.h.older.g : Int), .b false, .sl cP o.P.length, .sl cR o.R.length, .i .u64 o.word]) := by rw [<- hJ]; exact s_bs
   have f0 := (c4.blk J.next (by omega) (by simp)).trans b0
   clear hJ
   refine Ok.step (rwords20_ok J4 _ _ _ _ _ _ (n := o.P.length) (m := o.R.length) (by omega) (by omega)) fun q ⟨q1, q2⟩ => ?_
   obtain ⟨q, J5⟩ := q
   simp only at q1 q2
   subst q1
   have n5 := q2.next
   have h0 := (q2.blk _ (by omega)).trans f0
   have ho' := (q2.blk _ (by omega)).trans fo
   simp (maxSteps := 2000000) -implicitDefEqProofs (disch := (first | omega | rfl | assumption | (simp only [rsD]; first | omega | assumption))) only [h0, ho', Nat.reduceAdd, Nat.reduceMul, Nat.reduceLT, Int.reduceToNat, Int.reduceAdd, Int.reduceSub, Int.reduceMul, rsU, rsC]
   have e1 : s.steps + 2 * ((1 + o.P.length + o.R.length : Nat) : Int) + 3 = (s.moved i o).steps := by rw [es]; unfold OV.n; omega
   have e2 : s.top + ((1 + o.P.length + o.R.length : Nat) : Int) = (s.moved i o).top := by rw [et]; rfl
   rw [e1]
   generalize hJ : AH.put _ (J.next + 2) _ = J6
   have n6 : J6.next = J5.next := by rw [<- hJ]; rfl
   have c6 : Chg [J.next, J.next + 2] J5 J6 := ⟨by omega, fun b hb hm => by
    simp only [List.mem_cons, List.not_mem_nil, or_false, not_or] at hm
    rw [<- hJ, s_bn hm.2, s_bn hm.1]⟩
   have i0 : J6.blk J.next = some (.cells true 63 [.sl (.loc (.n (J.next + 6)) 0 8) s.l.length, .sl (.loc (.n (J.next + 4)) 0 1) s.now.length, .i .i64 s.top, .sl c s.mv.length, .i .i64 (s.moved i o).steps]) := by rw [<- hJ]; exact (s_bn (by omega)).trans s_bs
   have io : J6.blk (J.next + 2) = some (.cells true 42 [.i .i64 (o.h.older.p : Int), .i .i64 (o.h.older.r : Int), .i .i64 (o.h.older.s : Int), .i .i64 (o.h.older.g : Int), .b false, .sl cP o.P.length, .sl cR o.R.length, .i .u64 (2 * s.top + 1)]) := by rw [<- hJ]; exact s_bs
   clear hJ
   refine Ok.step (rwords20_ok J6 _ _ _ _ _ _ (n := o.P.length) (m := o.R.length) (by omega) (by omega)) fun q ⟨q3, q4⟩ => ?_
   obtain ⟨q, J7⟩ := q
   simp only at q3 q4
   subst q3
   have n7 := q4.next
   have j0 := (q4.blk _ (by omega)).trans i0
   have jo := (q4.blk _ (by omega)).trans io
   have up : ∀ b, b < J.next + 7 -> b ≠ J.next -> b ≠ J.next + 2 -> J7.blk b = J2.blk b := fun b h1 h2 h3 => by
    rw [q4.blk b (by omega), c6.blk b (by omega) (by simp; omega), q2.blk b (by omega), c4.blk b (by omega) (by simpa using h3)]
   have gN := (up (J.next + 4) (by omega) (by omega) (by omega)).trans bN
   simp (maxSteps := 2000000) -implicitDefEqProofs (disch := (first | omega | rfl | assumption | (simp only [rsD]; first | omega | assumption))) only [j0, jo, Nat.reduceAdd, Nat.reduceMul, Nat.reduceLT, Int.reduceToNat, Int.reduceAdd, Int.reduceSub, Int.reduceMul, rsU, rsC]
   rw [e2]
   generalize hJ : AH.put J7 J.next _ = J3
   have n3 : J.next + 7 <= J3.next := by rw [<- hJ]; simp only [rsD]; omega
   have k0 : J3.blk J.next = some (.cells true 63 [.sl (.loc (.n (J.next + 6)) 0 8) s.l.length, .sl (.loc (.n (J.next + 4)) 0 1) s.now.length, .i .i64 (s.moved i o).top, .sl c s.mv.length, .i .i64 (s.moved i o).steps]) := by rw [<- hJ]; exact s_bs
   have k1 := (show J3.blk (J.next + 1) = J2.blk (J.next + 1) by rw [<- hJ, s_bn (by omega)]; exact up _ (by omega) (by omega) (by omega)).trans b1
   have ko : J3.blk (J.next + 2) = some (.cells true 42 [.i .i64 (o.h.older.p : Int), .i .i64 (o.h.older.r : Int), .i .i64 (o.h.older.s : Int), .i .i64 (o.h.older.g : Int), .b o.h.older.l, .sl cP o.P.length, .sl cR o.R.length, .i .u64 (s.went o).word]) := by rw [<- hJ, ew, hol, s_bn (by omega)]; exact jo
   have kN := (show J3.blk (J.next + 4) = J2.blk (J.next + 4) by rw [<- hJ, s_bn (by omega)]; exact up _ (by omega) (by omega) (by omega)).trans bN
   have kL := (show J3.blk (J.next + 6) = J2.blk (J.next + 6) by rw [<- hJ, s_bn (by omega)]; exact up _ (by omega) (by omega) (by omega)).trans bL
   have E3 : Ext J J3 := by
    refine ⟨by omega, fun b hb => ?_⟩
    rw [<- hJ, s_bn (by omega), up b (by omega) (by omega) (by omega)]
    exact E2.blk b hb
   clear hJ
   rw [<- ew]
  all_goals
   have kb : (i + 1).ble (s.now.map (AV.i .u64)).length = true := by rw [List.length_map]; exact Nat.ble_eq_true_of_le inl
   have ks : ∀ w : Int, splice (s.now.map (AV.i .u64)) i [.i .u64 w] = (s.now.set i w).map (AV.i .u64) := fun w => by rw [splice_set (by simpa using inl), List.map_set]
   have ib : (i * 8 + 8).ble vs.length = true := by rw [v1]; exact Nat.ble_eq_true_of_le (by omega)
   simp (maxSteps := 2000000) -implicitDefEqProofs (disch := (first | omega | rfl | assumption | (simp only [rsD]; first | omega | assumption))) only [k0, ko, gN, kN, kL, k1, kb, ks, ib, rM, s_app0q, kill_next, put_next, bump_next, s_kn, Nat.reduceAdd, Nat.reduceMul, Nat.reduceLT, Int.reduceToNat, Int.reduceAdd, Int.reduceSub, Int.reduceMul, rsU, rsC]
   generalize hJ : AH.put _ (J3.next + 1 + 1) _ = J8
   have n8 : J8.next = J3.next + 4 := by rw [<- hJ]; simp only [rsD]
   have m0 := (show J8.blk J.next = J3.blk J.next by rw [<- hJ]; ((try simp only [rsD] at *); simp -implicitDefEqProofs (disch := (first | omega | rfl | assumption | (simp only [rsD]; first | omega | assumption))) only [s_bs, s_bn, s_kn, bump_blk])).trans k0
   have m1 := (show J8.blk (J.next + 1) = J3.blk (J.next + 1) by rw [<- hJ]; ((try simp only [rsD] at *); simp -implicitDefEqProofs (disch := (first | omega | rfl | assumption | (simp only [rsD]; first | omega | assumption))) only [s_bs, s_bn, s_kn, bump_blk])).trans k1
   have mo := (show J8.blk (J.next + 2) = J3.blk (J.next + 2) by rw [<- hJ]; ((try simp only [rsD] at *); simp -implicitDefEqProofs (disch := (first | omega | rfl | assumption | (simp only [rsD]; first | omega | assumption))) only [s_bs, s_bn, s_kn, bump_blk])).trans ko
   have mN : J8.blk (J.next + 4) = some (.cells true T_uint64 ((s.now.set i (s.went o).word).map (.i .u64))) := by rw [<- hJ]; ((try simp only [rsD] at *); simp -implicitDefEqProofs (disch := (first | omega | rfl | assumption | (simp only [rsD]; first | omega | assumption))) only [s_bs, s_bn, s_kn, bump_blk])
   have mL : J8.blk (J.next + 6) = some (.cells true T_haymowref16_Object (splice vs (i * 8) [.i .i64 (o.h.older.p : Int), .i .i64 (o.h.older.r : Int), .i .i64 (o.h.older.s : Int), .i .i64 (o.h.older.g : Int), .b o.h.older.l, .sl cP o.P.length, .sl cR o.R.length, .i .u64 (s.went o).word])) := by rw [<- hJ]; ((try simp only [rsD] at *); simp -implicitDefEqProofs (disch := (first | omega | rfl | assumption | (simp only [rsD]; first | omega | assumption))) only [s_bs, s_bn, s_kn, bump_blk])
   have mM : J8.blk (J3.next + 1) = some (.cells true 3 (s.mv.map (.i .i64))) := by rw [<- hJ]; ((try simp only [rsD] at *); simp -implicitDefEqProofs (disch := (first | omega | rfl | assumption | (simp only [rsD]; first | omega | assumption))) only [s_bs, s_bn, s_kn, bump_blk])
   have E8 : Ext J J8 := by
    refine ⟨by omega, fun b hb => ?_⟩
    rw [<- hJ]
    ((try simp only [rsD] at *); simp -implicitDefEqProofs (disch := (first | omega | rfl | assumption | (simp only [rsD]; first | omega | assumption))) only [s_bs, s_bn, s_kn, bump_blk])
    exact E3.blk b hb
   clear hJ k0 k1 ko kN kL gN bN bL
   refine Ok.step (app_ok (nid := J3.next + 1 + 1 + 1) (OwnS.new (J := J8) (n := s.mv.length) (es := 1) (by simp) mM (by omega)) (by simp only [SA.bk, List.mem_singleton]; omega) (by omega) (m := 1) (new := [AV.i .i64 _]) rfl) fun q ⟨a', q1, q2, q3, q4, q5⟩ => ?_
   obtain ⟨q, J9⟩ := q
   simp only at q1 q2 q3 q4
   subst q1
   have q4' : ∀ b, b ≠ J3.next + 3 -> b ≠ J3.next + 1 -> J9.blk b = J8.blk b := fun b h1 h2 => q4 b (by omega) (by simp only [SA.bk, List.mem_singleton]; omega)
   have p0 := (q4' J.next (by omega) (by omega)).trans m0
   have p1 := (q4' (J.next + 1) (by omega) (by omega)).trans m1
   have po := (q4' (J.next + 2) (by omega) (by omega)).trans mo
   have pN := (q4' (J.next + 4) (by omega) (by omega)).trans mN
   have pL := (q4' (J.next + 6) (by omega) (by omega)).trans mL
   have E9 : Ext J J9 := ⟨by have := E8.next; omega, fun b hb => (q4' b (by omega) (by omega)).trans (E8.blk b hb)⟩
   simp (maxSteps := 2000000) -implicitDefEqProofs (disch := (first | omega | rfl | assumption | (simp only [rsD]; first | omega | assumption))) only [p0, p1, po, Nat.reduceAdd, Nat.reduceMul, Nat.reduceLT, Int.reduceToNat, Int.reduceAdd, Int.reduceSub, Int.reduceMul, rsU, rsC]
   have all := owl_set (J := J9) v2 il (OwL.im (OV.mk_ (x := s.went o) (a := cP) (b := cR) hiP hiR))
   have slL : Ow J9 (.sl T_haymowref16_Object 8 s.l.length ((s.l.set i (s.went o)).flatMap OV.row)) (.sl (.loc (.n (J.next + 6)) 0 8) s.l.length) ([J.next + 6] ++ []) :=
    .sl (OwnS.new (by rw [splice_len (by rw [v1]; show i * 8 + 8 <= _; omega), v1]) pL (by omega)).p all (by simp)
   have slN : Ow J9 (intsU (s.now.set i (s.went o).word)) (.sl (.loc (.n (J.next + 4)) 0 1) s.now.length) [J.next + 4] := by
    have := Ow.leaves (J := J9) (el := T_uint64) (es := 1) (n := (s.now.set i (s.went o).word).length) (a := .loc (.n (J.next + 4)) 0 1) (xs := (s.now.set i (s.went o).word).map (.i .u64)) (OwnS.new (by simp) pN (by omega)) (flat_ints _)
    rw [<- int1_flat] at this
    unfold intsU
    rw [List.length_set] at this ⊢
    exact this
   have slM : Ow J9 (intsN (s.mv ++ [(i : Int)])) (.sl a' (s.mv.length + 1)) (SA.bk a') := by
    have := Ow.leaves (J := J9) (el := T_int) (es := 1) (n := s.mv.length + 1) (a := a') (xs := (s.mv ++ [(i : Int)]).map (.i .i64)) (by rw [List.map_append]; exact q2) (flat_ints _)
    rw [<- int1_flat] at this
    unfold intsN
    rw [List.length_append]
    exact this
   have hbk : ∀ b ∈ SA.bk a', b = J3.next + 3 := fun b hb => by have := q5 b hb; omega
   have o1 : OwL J9 (s.moved i o).ts [.sl (.loc (.n (J.next + 6)) 0 8) s.l.length, .sl (.loc (.n (J.next + 4)) 0 1) s.now.length, .i .i64 (s.moved i o).top, .sl a' (s.mv.length + 1), .i .i64 (s.moved i o).steps] (([J.next + 6] ++ []) ++ ([J.next + 4] ++ ([] ++ (SA.bk a' ++ ([] ++ []))))) := by
    unfold S20.ts
    have e3 : (s.moved i o).l.length = s.l.length := List.length_set
    have e4 : (s.moved i o).l = s.l.set i (s.went o) := rfl
    have e5 : (s.moved i o).now = s.now.set i (s.went o).word := rfl
    have e6 : (s.moved i o).mv = s.mv ++ [(i : Int)] := rfl
    rw [e3, e4, e5, e6]
    refine .cons slL (.cons slN (.cons (.im (.lf rfl)) (.cons slM (.cons (.im (.lf rfl)) .nil (by simp)) (by simp)) (by simp)) ?_) ?_
    ·intro b hb hm
     simp at hb hm
     have := hbk b hm
     omega
    ·intro b hb hm
     simp at hb hm
     rcases hm with hm | hm
     ·omega
     ·have := hbk b hm
      omega
   refine Ok_some.2 ⟨_, rfl, ?_, _, o1.of (by simp only [rsD]; omega) fun b hb => ?_, fun b hb => ?_⟩
   ·refine ⟨by simp only [rsD]; have := E9.next; omega, fun b hb => ?_⟩
    ((try simp only [rsD] at *); simp -implicitDefEqProofs (disch := (first | omega | rfl | assumption | (simp only [rsD]; first | omega | assumption))) only [s_bs, s_bn, s_kn, bump_blk])
    exact E9.blk b hb
   ·have hb' : b = J.next + 6 ∨ b = J.next + 4 ∨ b = J3.next + 3 := by
     simp at hb
     rcases hb with hb | hb | hb
     ·omega
     ·omega
     ·have := hbk b hb; omega
    ((try simp only [rsD] at *); simp -implicitDefEqProofs (disch := (first | omega | rfl | assumption | (simp only [rsD]; first | omega | assumption))) only [s_bs, s_bn, s_kn, bump_blk])
   ·simp at hb
    rcases hb with hb | hb | hb
    ·omega
    ·omega
    ·have := hbk b hb; omega
 ·obtain ⟨a', b', c', rfl, g4⟩ := S20.un g2
  exact ⟨⟨a', b', c', g1, g4⟩, g3⟩
end Go.Abs.Tryz
