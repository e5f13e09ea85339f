/-
  Forms as plain data. No conditions.
-/
import Derived.Test.YteklninbijohcaaN90
import Derived.Test.YteklninbijohcaaS4b
set_option linter.unusedVariables false
set_option linter.unusedSimpArgs false
set_option linter.constructorNameAsVariable false
namespace Go.Abs
open Go
variable {O : Type}

structure HV where
  p : Int
  r : Int
  site : Int
  age : Int
  large : Bool
  deriving DecidableEq
structure NV where
  h : HV
  P : List Int
  R : List Int
  deriving DecidableEq
structure FV where
  nodes : List NV
  roots : List Int
  weak : List Int
  deriving DecidableEq
def HV.cs (h : HV) : List AV := [.i .i64 h.p, .i .i64 h.r, .i .i64 h.site, .i .i64 h.age, .b h.large]
def elK : IntKind → Nat | .i64 => 3 | .u64 => 22 | .u8 => 5 | _ => 0
def ints (k : IntKind) (l : List Int) : TV := .sl (elK k) 1 l.length (l.flatMap (int1 k))
theorem ints_un {k : IntKind} {l : List Int} {v : AV} (h : Im (ints k l) v) : ∃ a, v = .sl a l.length ∧ Ints k a l := Row.of (int1_len k) h rfl
theorem ints_mk {k : IntKind} {l : List Int} {a : SA} (h : Ints k a l) : Im (ints k l) (.sl a l.length) := h.im _
def NV.row (x : NV) : List TV := x.h.cs.map TV.lf ++ [ints .i64 x.P, ints .u64 x.R]
theorem NV.len (x : NV) : x.row.length = 7 := rfl
def NV.cells (x : NV) (a b : SA) : List AV := [.i .i64 x.h.p, .i .i64 x.h.r, .i .i64 x.h.site, .i .i64 x.h.age, .b x.h.large, .sl a x.P.length, .sl b x.R.length]
theorem NV.un {x : NV} {us : List AV} (h : ImL x.row us) : ∃ a b, us = x.cells a b ∧ Ints .i64 a x.P ∧ Ints .u64 b x.R := by
  unfold NV.row HV.cs at h
  cases h with
  | cons h0 h => cases h with
  | cons h1 h => cases h with
  | cons h2 h => cases h with
  | cons h3 h => cases h with
  | cons h4 h => cases h with
  | cons h5 h => cases h with
  | cons h6 h => cases h with
  | nil =>
    obtain ⟨a, rfl, ia⟩ := ints_un h5
    obtain ⟨b, rfl, ib⟩ := ints_un h6
    rw [h0.leaf, h1.leaf, h2.leaf, h3.leaf, h4.leaf]
    exact ⟨a, b, rfl, ia, ib⟩
theorem NV.mk_ {x : NV} {a b : SA} (ha : Ints .i64 a x.P) (hb : Ints .u64 b x.R) : ImL x.row (x.cells a b) :=
  .cons (.lf rfl) (.cons (.lf rfl) (.cons (.lf rfl) (.cons (.lf rfl) (.cons (.lf rfl) (.cons (ints_mk ha) (.cons (ints_mk hb) .nil))))))
abbrev Nodes (a : SA) (l : List NV) : Prop := Row NV.row 7 a l
structure FV.At (F : FV) (v : AV) : Prop where
  it : ∃ a b c, v = .agg [.sl a F.nodes.length, .sl b F.roots.length, .sl c F.weak.length] ∧ Nodes a F.nodes ∧ Ints .i64 b F.roots ∧ Ints .i64 c F.weak
/-- one node's cells, wherever it is read -/
theorem Row.node {a : SA} {l : List NV} (h : Nodes a l) {i : Nat} {x : NV} (hx : l[i]? = some x) : ∃ b o c d, a = .loc b o 7 ∧ Ints .i64 c x.P ∧ Ints .u64 d x.R ∧ ∀ (O : Type) (σ : AH O),
    σ.ld b (o + i * 7) = some (.i .i64 x.h.p) ∧ σ.ld b (o + i * 7 + 1) = some (.i .i64 x.h.r) ∧ σ.ld b (o + i * 7 + 2) = some (.i .i64 x.h.site) ∧ σ.ld b (o + i * 7 + 3) = some (.i .i64 x.h.age) ∧ σ.ld b (o + i * 7 + 4) = some (.b x.h.large) ∧ σ.ld b (o + i * 7 + 5) = some (.sl c x.P.length) ∧ σ.ld b (o + i * 7 + 6) = some (.sl d x.R.length) := by
  obtain ⟨b, o, us, e, h1, h2⟩ := h.get hx
  obtain ⟨c, d, rfl, hc, hd⟩ := NV.un h1
  refine ⟨b, o, c, d, e, hc, hd, fun O σ => ⟨?_, ?_, ?_, ?_, ?_, ?_, ?_⟩⟩
  · exact h2 O σ 0 (by decide)
  · exact h2 O σ 1 (by decide)
  · exact h2 O σ 2 (by decide)
  · exact h2 O σ 3 (by decide)
  · exact h2 O σ 4 (by decide)
  · exact h2 O σ 5 (by decide)
  · exact h2 O σ 6 (by decide)
/-- not much -/
structure NV.few (x : NV) : Prop where
  p : x.P.length ≤ 100000
  r : x.R.length ≤ 100000
structure FV.few (F : FV) : Prop where
  n : F.nodes.length ≤ 100000
  x : ∀ x ∈ F.nodes, x.few
  r : F.roots.length ≤ 100000
  w : F.weak.length ≤ 100000
/-- a loop that compares two lists, number by number -/
theorem eq_loop {S T : Type} {f : S → Option (S ⊕ T)} {l m : List Int} (hl : l.length = m.length) (I : Nat → S → Prop) (Q : T → Prop) (hs : ∀ k s, k < l.length → I k s → Ok (f s) fun r => if l[k]? = m[k]? then (match r with | .inl s' => I (k + 1) s' | .inr _ => False) else (match r with | .inl _ => False | .inr t => l ≠ m → Q t))
    (he : ∀ s, I l.length s → Ok (f s) fun r => match r with | .inl _ => False | .inr t => l = m → Q t) {s : S} (h0 : I 0 s) : Ok (loopF f s) Q := by
  refine Ok.count l.length (fun k s => I k s ∧ ∀ j, j < k → l[j]? = m[j]?) ?_ ?_ ⟨h0, fun j hj => by omega⟩
  · rintro k s hk ⟨h1, h2⟩
    refine (hs k s hk h1).mono fun r hr => ?_
    by_cases c : l[k]? = m[k]?
    · rw [if_pos c] at hr
      cases r with
      | inl s' => exact ⟨hr, fun j hj => by
          by_cases e : j = k
          · subst e; exact c
          · exact h2 j (by omega)⟩
      | inr t => exact hr.elim
    · rw [if_neg c] at hr
      cases r with
      | inl s' => exact hr.elim
      | inr t => exact hr fun e => c (by rw [e])
  · rintro s ⟨h1, h2⟩
    refine (he s h1).mono fun r hr => ?_
    cases r with
    | inl s' => exact hr.elim
    | inr t =>
      refine hr (List.ext_getElem? fun j => ?_)
      by_cases c : j < l.length
      · exact h2 j c
      · rw [List.getElem?_eq_none (by omega), List.getElem?_eq_none (by omega)]
end Go.Abs
set_option linter.unusedSimpArgs false
set_option linter.unusedVariables false
set_option linter.unusedSectionVars false
set_option maxHeartbeats 1000000
namespace Go.Abs.Try
open Go Go.Abs
variable {O : Type}

theorem clone_i {σ : AH O} {a : SA} {l : List Int} (h : Ints .i64 a l) (hl : l.length ≤ 100000) : Ok (slices_Clone___int_int_ [.sl a l.length] σ) fun r => ∃ a', r.1 = .sl a' l.length ∧ New σ r.2 [ints .i64 l] [.sl a' l.length] ∧ (AV.sl a' l.length).mine = true := by
  cases hn : SA.isNil a with
  | true =>
    obtain ⟨rfl, rfl⟩ := h.isNil hn
    simp (config := { maxSteps := 2000000 }) -implicitDefEqProofs (disch := (first | omega | rfl | assumption | (simp only [rsD]; first | omega | assumption))) only [slices_Clone___int_int_, slices_Clone___int_int__c, hn, Nat.reduceAdd, Nat.reduceMul, Nat.reduceLT, Int.reduceToNat, Int.reduceAdd, Int.reduceSub, Int.reduceMul, rsU, rsC]
    exact Ok_some.2 ⟨.nil, rfl, (Bld.nil σ _ (int1_len _)).out (Ext.refl σ) (by simp [SA.bk]), rfl⟩
  | false =>
    obtain ⟨vs, h1, h2, h3⟩ := h.all
    simp (config := { maxSteps := 2000000 }) -implicitDefEqProofs (disch := (first | omega | rfl | assumption | (simp only [rsD]; first | omega | assumption))) only [slices_Clone___int_int_, slices_Clone___int_int__c, hn, h3, Nat.reduceAdd, Nat.reduceMul, Nat.reduceLT, Int.reduceToNat, Int.reduceAdd, Int.reduceSub, Int.reduceMul, rsU, rsC]
    refine Ok.step (Bld.app (Bld.new (row := int1 .i64) (int1_len _) s_bs (by simp)) (m := l) (by simp [SA.bk]) (by simp) h2) fun r ⟨a', g1, g2, g3, g4, g5⟩ => ?_
    obtain ⟨q, σ2⟩ := r
    simp only at g1 g2 g3 g4
    subst g1
    have mi : (AV.sl a' l.length).mine = true := by
      obtain ⟨_, o, _⟩ := g2.it
      rw [List.nil_append] at o; exact o.p.mine
    simp (config := { maxSteps := 2000000 }) -implicitDefEqProofs (disch := (first | omega | rfl | assumption | (simp only [rsD]; first | omega | assumption))) only [List.length_nil, Nat.reduceAdd, Nat.reduceMul, Nat.reduceLT, Int.reduceToNat, Int.reduceAdd, Int.reduceSub, Int.reduceMul, rsU, rsC]
    refine Ok_some.2 ⟨a', by simp, g2.out ⟨by show σ.next ≤ σ2.next; rw [g3]; simp, fun b hb => ?_⟩ fun b hb => by have := g5 b hb; omega, mi⟩
    show σ2.blk b = _
    rw [g4 b (by omega) (by simp [SA.bk]; omega)]; simp -implicitDefEqProofs (disch := omega) only [s_bn, s_bs, s_kn, bump_blk]
theorem clone_u {σ : AH O} {a : SA} {l : List Int} (h : Ints .u64 a l) (hl : l.length ≤ 100000) : Ok (slices_Clone___uint64_uint64_ [.sl a l.length] σ) fun r => ∃ a', r.1 = .sl a' l.length ∧ New σ r.2 [ints .u64 l] [.sl a' l.length] ∧ (AV.sl a' l.length).mine = true := by
  cases hn : SA.isNil a with
  | true =>
    obtain ⟨rfl, rfl⟩ := h.isNil hn
    simp (config := { maxSteps := 2000000 }) -implicitDefEqProofs (disch := (first | omega | rfl | assumption | (simp only [rsD]; first | omega | assumption))) only [slices_Clone___uint64_uint64_, slices_Clone___uint64_uint64__c, hn, Nat.reduceAdd, Nat.reduceMul, Nat.reduceLT, Int.reduceToNat, Int.reduceAdd, Int.reduceSub, Int.reduceMul, rsU, rsC]
    exact Ok_some.2 ⟨.nil, rfl, (Bld.nil σ _ (int1_len _)).out (Ext.refl σ) (by simp [SA.bk]), rfl⟩
  | false =>
    obtain ⟨vs, h1, h2, h3⟩ := h.all
    simp (config := { maxSteps := 2000000 }) -implicitDefEqProofs (disch := (first | omega | rfl | assumption | (simp only [rsD]; first | omega | assumption))) only [slices_Clone___uint64_uint64_, slices_Clone___uint64_uint64__c, hn, h3, Nat.reduceAdd, Nat.reduceMul, Nat.reduceLT, Int.reduceToNat, Int.reduceAdd, Int.reduceSub, Int.reduceMul, rsU, rsC]
    refine Ok.step (Bld.app (Bld.new (row := int1 .u64) (int1_len _) s_bs (by simp)) (m := l) (by simp [SA.bk]) (by simp) h2) fun r ⟨a', g1, g2, g3, g4, g5⟩ => ?_
    obtain ⟨q, σ2⟩ := r
    simp only at g1 g2 g3 g4
    subst g1
    have mi : (AV.sl a' l.length).mine = true := by
      obtain ⟨_, o, _⟩ := g2.it
      rw [List.nil_append] at o; exact o.p.mine
    simp (config := { maxSteps := 2000000 }) -implicitDefEqProofs (disch := (first | omega | rfl | assumption | (simp only [rsD]; first | omega | assumption))) only [List.length_nil, Nat.reduceAdd, Nat.reduceMul, Nat.reduceLT, Int.reduceToNat, Int.reduceAdd, Int.reduceSub, Int.reduceMul, rsU, rsC]
    refine Ok_some.2 ⟨a', by simp, g2.out ⟨by show σ.next ≤ σ2.next; rw [g3]; simp, fun b hb => ?_⟩ fun b hb => by have := g5 b hb; omega, mi⟩
    show σ2.blk b = _
    rw [g4 b (by omega) (by simp [SA.bk]; omega)]; simp -implicitDefEqProofs (disch := omega) only [s_bn, s_bs, s_kn, bump_blk]
theorem sequal_i {σ : AH O} {a b : SA} {l m : List Int} (ha : Ints .i64 a l) (hb : Ints .i64 b m) (hl : l.length ≤ 100000) (hm : m.length ≤ 100000) : Ok (slices_Equal___int_int_ [.sl a l.length, .sl b m.length] σ) fun r => r = (.b (decide (l = m)), σ) := by
  by_cases c : l.length = m.length
  · have q0 : ((l.length : Int) == (m.length : Int)) = true := s_eqT (by omega)
    simp (config := { maxSteps := 2000000 }) -implicitDefEqProofs (disch := (first | omega | rfl | assumption | (simp only [rsD]; first | omega | assumption))) only [slices_Equal___int_int_, slices_Equal___int_int__c, q0, Nat.reduceAdd, Nat.reduceMul, Nat.reduceLT, Int.reduceToNat, Int.reduceAdd, Int.reduceSub, Int.reduceMul, rsU, rsC]
    refine Ok.bindS (Q := fun r => (l = m ∧ r = .inl ([], σ)) ∨ (l ≠ m ∧ r = .inr (.b false, σ))) ?_ ?_ ?_
    · refine eq_loop c (fun k s => s = ([.i .i64 (k : Int)], σ)) _ ?_ ?_ rfl
      · rintro k s hk rfl
        obtain ⟨x, hx⟩ : ∃ x, l[k]? = some x := ⟨_, List.getElem?_eq_getElem hk⟩
        obtain ⟨y, hy⟩ : ∃ y, m[k]? = some y := ⟨_, List.getElem?_eq_getElem (by omega)⟩
        obtain ⟨b1, o1, rfl, l1⟩ := ha.at hx
        obtain ⟨b2, o2, rfl, l2⟩ := hb.at hy
        rw [hx, hy]
        by_cases e : x = y
        · have q1 := s_eqT e
          simp (config := { maxSteps := 2000000 }) -implicitDefEqProofs (disch := (first | omega | rfl | assumption | (simp only [rsD]; first | omega | assumption))) only [slices_Equal___int_int__L1, l1, l2, q1, Nat.reduceAdd, Nat.reduceMul, Nat.reduceLT, Int.reduceToNat, Int.reduceAdd, Int.reduceSub, Int.reduceMul, rsU, rsC]
          exact Ok_some.2 (by rw [if_pos (by rw [e])]; simp)
        · have q1 := s_eqF e
          simp (config := { maxSteps := 2000000 }) -implicitDefEqProofs (disch := (first | omega | rfl | assumption | (simp only [rsD]; first | omega | assumption))) only [slices_Equal___int_int__L1, l1, l2, q1, Nat.reduceAdd, Nat.reduceMul, Nat.reduceLT, Int.reduceToNat, Int.reduceAdd, Int.reduceSub, Int.reduceMul, rsU, rsC]
          exact Ok_some.2 (by rw [if_neg (by simp [e])]; exact fun h => .inr ⟨h, rfl⟩)
      · rintro s rfl
        simp (config := { maxSteps := 2000000 }) -implicitDefEqProofs (disch := (first | omega | rfl | assumption | (simp only [rsD]; first | omega | assumption))) only [slices_Equal___int_int__L1, Nat.reduceAdd, Nat.reduceMul, Nat.reduceLT, Int.reduceToNat, Int.reduceAdd, Int.reduceSub, Int.reduceMul, rsU, rsC]
        exact Ok_some.2 fun h => .inl ⟨h, rfl⟩
    · rintro s (⟨e, hs⟩ | ⟨_, hs⟩)
      · cases hs
        exact Ok_some.2 (by simp [e])
      · cases hs
    · rintro r (⟨_, hs⟩ | ⟨e, hs⟩)
      · cases hs
      · cases hs; simp [e]
  · have q0 : ((l.length : Int) == (m.length : Int)) = false := s_eqF (by omega)
    simp (config := { maxSteps := 2000000 }) -implicitDefEqProofs (disch := (first | omega | rfl | assumption | (simp only [rsD]; first | omega | assumption))) only [slices_Equal___int_int_, slices_Equal___int_int__c, q0, Nat.reduceAdd, Nat.reduceMul, Nat.reduceLT, Int.reduceToNat, Int.reduceAdd, Int.reduceSub, Int.reduceMul, rsU, rsC]
    exact Ok_some.2 (by rw [decide_eq_false (fun e => c (by rw [e]))])
theorem sequal_u {σ : AH O} {a b : SA} {l m : List Int} (ha : Ints .u64 a l) (hb : Ints .u64 b m) (hl : l.length ≤ 100000) (hm : m.length ≤ 100000) : Ok (slices_Equal___uint64_uint64_ [.sl a l.length, .sl b m.length] σ) fun r => r = (.b (decide (l = m)), σ) := by
  by_cases c : l.length = m.length
  · have q0 : ((l.length : Int) == (m.length : Int)) = true := s_eqT (by omega)
    simp (config := { maxSteps := 2000000 }) -implicitDefEqProofs (disch := (first | omega | rfl | assumption | (simp only [rsD]; first | omega | assumption))) only [slices_Equal___uint64_uint64_, slices_Equal___uint64_uint64__c, q0, Nat.reduceAdd, Nat.reduceMul, Nat.reduceLT, Int.reduceToNat, Int.reduceAdd, Int.reduceSub, Int.reduceMul, rsU, rsC]
    refine Ok.bindS (Q := fun r => (l = m ∧ r = .inl ([], σ)) ∨ (l ≠ m ∧ r = .inr (.b false, σ))) ?_ ?_ ?_
    · refine eq_loop c (fun k s => s = ([.i .i64 (k : Int)], σ)) _ ?_ ?_ rfl
      · rintro k s hk rfl
        obtain ⟨x, hx⟩ : ∃ x, l[k]? = some x := ⟨_, List.getElem?_eq_getElem hk⟩
        obtain ⟨y, hy⟩ : ∃ y, m[k]? = some y := ⟨_, List.getElem?_eq_getElem (by omega)⟩
        obtain ⟨b1, o1, rfl, l1⟩ := ha.at hx
        obtain ⟨b2, o2, rfl, l2⟩ := hb.at hy
        rw [hx, hy]
        by_cases e : x = y
        · have q1 := s_eqT e
          simp (config := { maxSteps := 2000000 }) -implicitDefEqProofs (disch := (first | omega | rfl | assumption | (simp only [rsD]; first | omega | assumption))) only [slices_Equal___uint64_uint64__L1, l1, l2, q1, Nat.reduceAdd, Nat.reduceMul, Nat.reduceLT, Int.reduceToNat, Int.reduceAdd, Int.reduceSub, Int.reduceMul, rsU, rsC]
          exact Ok_some.2 (by rw [if_pos (by rw [e])]; simp)
        · have q1 := s_eqF e
          simp (config := { maxSteps := 2000000 }) -implicitDefEqProofs (disch := (first | omega | rfl | assumption | (simp only [rsD]; first | omega | assumption))) only [slices_Equal___uint64_uint64__L1, l1, l2, q1, Nat.reduceAdd, Nat.reduceMul, Nat.reduceLT, Int.reduceToNat, Int.reduceAdd, Int.reduceSub, Int.reduceMul, rsU, rsC]
          exact Ok_some.2 (by rw [if_neg (by simp [e])]; exact fun h => .inr ⟨h, rfl⟩)
      · rintro s rfl
        simp (config := { maxSteps := 2000000 }) -implicitDefEqProofs (disch := (first | omega | rfl | assumption | (simp only [rsD]; first | omega | assumption))) only [slices_Equal___uint64_uint64__L1, Nat.reduceAdd, Nat.reduceMul, Nat.reduceLT, Int.reduceToNat, Int.reduceAdd, Int.reduceSub, Int.reduceMul, rsU, rsC]
        exact Ok_some.2 fun h => .inl ⟨h, rfl⟩
    · rintro s (⟨e, hs⟩ | ⟨_, hs⟩)
      · cases hs
        exact Ok_some.2 (by simp [e])
      · cases hs
    · rintro r (⟨_, hs⟩ | ⟨e, hs⟩)
      · cases hs
      · cases hs; simp [e]
  · have q0 : ((l.length : Int) == (m.length : Int)) = false := s_eqF (by omega)
    simp (config := { maxSteps := 2000000 }) -implicitDefEqProofs (disch := (first | omega | rfl | assumption | (simp only [rsD]; first | omega | assumption))) only [slices_Equal___uint64_uint64_, slices_Equal___uint64_uint64__c, q0, Nat.reduceAdd, Nat.reduceMul, Nat.reduceLT, Int.reduceToNat, Int.reduceAdd, Int.reduceSub, Int.reduceMul, rsU, rsC]
    exact Ok_some.2 (by rw [decide_eq_false (fun e => c (by rw [e]))])
end Go.Abs.Try
set_option linter.unusedSimpArgs false
set_option linter.unusedVariables false
set_option linter.unusedSectionVars false
set_option maxHeartbeats 1000000
namespace Go.Abs.Try
open Go Go.Abs
variable {O : Type}

theorem dclone {σ : AH O} {x : NV} {a b : SA} (ha : Ints .i64 a x.P) (hb : Ints .u64 b x.R) (hx : x.few) : Ok (diff_clone [.agg (x.cells a b)] σ) fun r => ∃ a' b', r.1 = .agg (x.cells a' b') ∧ New σ r.2 x.row (x.cells a' b') ∧ (x.cells a' b').all AV.mine = true := by
  simp (config := { maxSteps := 2000000 }) -implicitDefEqProofs (disch := (first | omega | rfl | assumption | (simp only [rsD]; first | omega | assumption))) only [diff_clone, diff_clone_c, NV.cells, Nat.reduceAdd, Nat.reduceMul, Nat.reduceLT, Int.reduceToNat, Int.reduceAdd, Int.reduceSub, Int.reduceMul, rsU, rsC]
  refine Ok.step (clone_i ha hx.p) fun r ⟨a', g1, g2, m1⟩ => ?_
  obtain ⟨q, σ1⟩ := r
  simp only at g1 g2
  subst g1
  simp (config := { maxSteps := 2000000 }) -implicitDefEqProofs (disch := (first | omega | rfl | assumption | (simp only [rsD]; first | omega | assumption))) only [s_ext g2.e, eq_self, Nat.reduceAdd, Nat.reduceMul, Nat.reduceLT, Int.reduceToNat, Int.reduceAdd, Int.reduceSub, Int.reduceMul, rsU, rsC]
  refine Ok.step (clone_u hb hx.r) fun r ⟨b', g3, g4, m2⟩ => ?_
  obtain ⟨q, σ2⟩ := r
  simp only at g3 g4
  subst g3
  have n2 := g2.e.next
  have n4 := g4.e.next
  simp only [rsD] at n2
  simp (config := { maxSteps := 2000000 }) -implicitDefEqProofs (disch := (first | omega | rfl | assumption | (simp only [rsD]; first | omega | assumption))) only [s_ext g2.e, s_ext g4.e, eq_self, Nat.reduceAdd, Nat.reduceMul, Nat.reduceLT, Int.reduceToNat, Int.reduceAdd, Int.reduceSub, Int.reduceMul, rsU, rsC]
  refine Ok_some.2 ⟨a', b', rfl, ?_, by simp only [NV.cells, List.all_cons, m1, m2]; rfl⟩
  have n := g2.cons g4
  refine New.lf rfl (New.lf rfl (New.lf rfl (New.lf rfl (New.lf rfl (n.keep (by simp) (ext_of (by (have x0 := (g2.e).next); (have x1 := (g4.e).next); (try simp only [rsD] at *); omega) (fun b hb => by (have x0 := (g2.e).next); (have x1 := (g4.e).next); (try simp only [rsD] at *); simp -implicitDefEqProofs (disch := (first | omega | rfl | assumption | (simp only [rsD]; first | omega | assumption))) only [s_bn, s_kn, bump_blk, s_ext (g2.e), s_ext (g4.e)])) (Nat.le_refl _) fun c h1 h2 => ?_)))))
  simp only [rsD] at h1
  ((try simp only [rsD] at *); simp -implicitDefEqProofs (disch := (first | omega | rfl | assumption | (simp only [rsD]; first | omega | assumption))) only [s_bs, s_bn, s_kn, bump_blk])
theorem hv_eq (x y : HV) : (((x.p == y.p) && (x.r == y.r)) && ((x.site == y.site) && ((x.age == y.age) && (x.large == y.large)))) = decide (x = y) := by
  cases x; cases y
  rw [Bool.eq_iff_iff]
  simp only [Bool.and_eq_true, beq_iff_eq, decide_eq_true_eq, HV.mk.injEq, and_assoc]
theorem nsame {σ : AH O} {x y : NV} {a b c d : SA} (ha : Ints .i64 a x.P) (hb : Ints .u64 b x.R) (hx : x.few) (hc : Ints .i64 c y.P) (hd : Ints .u64 d y.R) (hy : y.few) : Ok (canon_Node__same [.agg (x.cells a b), .agg (y.cells c d)] σ) fun r => r.1 = .b (decide (x = y)) ∧ Ext σ r.2 := by
  have q := hv_eq x.h y.h
  by_cases e : x.h = y.h
  · rw [decide_eq_true e] at q
    simp (config := { maxSteps := 2000000 }) -implicitDefEqProofs (disch := (first | omega | rfl | assumption | (simp only [rsD]; first | omega | assumption))) only [canon_Node__same, canon_Node__same_c, NV.cells, q, Nat.reduceAdd, Nat.reduceMul, Nat.reduceLT, Int.reduceToNat, Int.reduceAdd, Int.reduceSub, Int.reduceMul, rsU, rsC]
    refine Ok.step (sequal_i ha hc hx.p hy.p) fun r g => ?_
    subst g
    by_cases e2 : x.P = y.P
    · have q2 := decide_eq_true e2
      simp (config := { maxSteps := 2000000 }) -implicitDefEqProofs (disch := (first | omega | rfl | assumption | (simp only [rsD]; first | omega | assumption))) only [q2, Nat.reduceAdd, Nat.reduceMul, Nat.reduceLT, Int.reduceToNat, Int.reduceAdd, Int.reduceSub, Int.reduceMul, rsU, rsC]
      refine Ok.step (sequal_u hb hd hx.r hy.r) fun r g => ?_
      subst g
      simp (config := { maxSteps := 2000000 }) -implicitDefEqProofs (disch := (first | omega | rfl | assumption | (simp only [rsD]; first | omega | assumption))) only [Nat.reduceAdd, Nat.reduceMul, Nat.reduceLT, Int.reduceToNat, Int.reduceAdd, Int.reduceSub, Int.reduceMul, rsU, rsC]
      refine Ok_some.2 ⟨?_, (ext_of (by (try simp only [rsD] at *); omega) (fun b hb => by (try simp only [rsD] at *); simp -implicitDefEqProofs (disch := (first | omega | rfl | assumption | (simp only [rsD]; first | omega | assumption))) only [s_bn, s_kn, bump_blk]))⟩
      have : (x.R = y.R) ↔ x = y := ⟨fun h => by cases x; cases y; simp_all, fun h => by rw [h]⟩
      simp only [this]
    · have q2 := decide_eq_false e2
      simp (config := { maxSteps := 2000000 }) -implicitDefEqProofs (disch := (first | omega | rfl | assumption | (simp only [rsD]; first | omega | assumption))) only [q2, Nat.reduceAdd, Nat.reduceMul, Nat.reduceLT, Int.reduceToNat, Int.reduceAdd, Int.reduceSub, Int.reduceMul, rsU, rsC]
      refine Ok_some.2 ⟨?_, (ext_of (by (try simp only [rsD] at *); omega) (fun b hb => by (try simp only [rsD] at *); simp -implicitDefEqProofs (disch := (first | omega | rfl | assumption | (simp only [rsD]; first | omega | assumption))) only [s_bn, s_kn, bump_blk]))⟩
      rw [decide_eq_false (fun h => e2 (by rw [h]))]
  · rw [decide_eq_false e] at q
    simp (config := { maxSteps := 2000000 }) -implicitDefEqProofs (disch := (first | omega | rfl | assumption | (simp only [rsD]; first | omega | assumption))) only [canon_Node__same, canon_Node__same_c, NV.cells, q, Nat.reduceAdd, Nat.reduceMul, Nat.reduceLT, Int.reduceToNat, Int.reduceAdd, Int.reduceSub, Int.reduceMul, rsU, rsC]
    refine Ok_some.2 ⟨?_, (ext_of (by (try simp only [rsD] at *); omega) (fun b hb => by (try simp only [rsD] at *); simp -implicitDefEqProofs (disch := (first | omega | rfl | assumption | (simp only [rsD]; first | omega | assumption))) only [s_bn, s_kn, bump_blk]))⟩
    rw [decide_eq_false (fun h => e (by rw [h]))]
theorem eqfunc {σ : AH O} {a b : SA} {l m : List NV} (ha : Nodes a l) (hb : Nodes b m) (hl : l.length ≤ 100000) (hm : m.length ≤ 100000) (fl : ∀ x ∈ l, x.few) (fm : ∀ x ∈ m, x.few) : Ok (slices_EqualFunc_canon_Node_ [.sl a l.length, .sl b m.length, .fn (some (.func 59, [], []))] σ) fun r => r.1 = .b (decide (l = m)) ∧ Ext σ r.2 := by
  by_cases c : l.length = m.length
  · have q0 : ((l.length : Int) == (m.length : Int)) = true := s_eqT (by omega)
    simp (config := { maxSteps := 2000000 }) -implicitDefEqProofs (disch := (first | omega | rfl | assumption | (simp only [rsD]; first | omega | assumption))) only [slices_EqualFunc_canon_Node_, slices_EqualFunc_canon_Node__c, q0, Nat.reduceAdd, Nat.reduceMul, Nat.reduceLT, Int.reduceToNat, Int.reduceAdd, Int.reduceSub, Int.reduceMul, rsU, rsC]
    refine Ok.bindS (Q := fun r => (l = m ∧ ∃ σ', r = .inl ([], σ') ∧ Ext σ σ') ∨ (l ≠ m ∧ ∃ σ', r = .inr (.b false, σ') ∧ Ext σ σ')) ?_ ?_ ?_
    · refine Ok.count l.length (fun k s => ∃ σ', s = ([.i .i64 (k : Int)], σ') ∧ Ext σ σ' ∧ ∀ j, j < k → l[j]? = m[j]?) ?_ ?_ ⟨σ, rfl, Ext.refl σ, fun j hj => by omega⟩
      · rintro k s hk ⟨σ1, rfl, E1, hj⟩
        obtain ⟨x, hx⟩ : ∃ x, l[k]? = some x := ⟨_, List.getElem?_eq_getElem hk⟩
        obtain ⟨y, hy⟩ : ∃ y, m[k]? = some y := ⟨_, List.getElem?_eq_getElem (by omega)⟩
        obtain ⟨b1, o1, c1, d1, rfl, ic, id, l1⟩ := ha.node hx
        obtain ⟨b2, o2, c2, d2, rfl, jc, jd, l2⟩ := hb.node hy
        simp (config := { maxSteps := 2000000 }) -implicitDefEqProofs (disch := (first | omega | rfl | assumption | (simp only [rsD]; first | omega | assumption))) only [slices_EqualFunc_canon_Node__L1, l1, l2, callV, getG, Nat.reduceAdd, Nat.reduceMul, Nat.reduceLT, Int.reduceToNat, Int.reduceAdd, Int.reduceSub, Int.reduceMul, rsU, rsC]
        refine Ok.step (nsame ic id (fl x (List.mem_of_getElem? hx)) jc jd (fm y (List.mem_of_getElem? hy))) fun r ⟨g1, g2⟩ => ?_
        obtain ⟨q, σ2⟩ := r
        simp only at g1 g2
        subst g1
        by_cases e : x = y
        · have q1 := decide_eq_true e
          simp (config := { maxSteps := 2000000 }) -implicitDefEqProofs (disch := (first | omega | rfl | assumption | (simp only [rsD]; first | omega | assumption))) only [q1, Nat.reduceAdd, Nat.reduceMul, Nat.reduceLT, Int.reduceToNat, Int.reduceAdd, Int.reduceSub, Int.reduceMul, rsU, rsC]
          refine Ok_some.2 ⟨σ2, by simp, (ext_of (by (have x0 := (g2).next); (have x1 := (E1).next); (try simp only [rsD] at *); omega) (fun b hb => by (have x0 := (g2).next); (have x1 := (E1).next); (try simp only [rsD] at *); simp -implicitDefEqProofs (disch := (first | omega | rfl | assumption | (simp only [rsD]; first | omega | assumption))) only [s_bn, s_kn, bump_blk, s_ext (g2), s_ext (E1)])), fun j hj2 => ?_⟩
          by_cases c : j = k
          · rw [c, hx, hy, e]
          · exact hj j (by omega)
        · have q1 := decide_eq_false e
          simp (config := { maxSteps := 2000000 }) -implicitDefEqProofs (disch := (first | omega | rfl | assumption | (simp only [rsD]; first | omega | assumption))) only [q1, Nat.reduceAdd, Nat.reduceMul, Nat.reduceLT, Int.reduceToNat, Int.reduceAdd, Int.reduceSub, Int.reduceMul, rsU, rsC]
          exact Ok_some.2 (.inr ⟨fun h => e (by rw [h, hy] at hx; simpa using hx.symm), σ2, rfl, (ext_of (by (have x0 := (g2).next); (have x1 := (E1).next); (try simp only [rsD] at *); omega) (fun b hb => by (have x0 := (g2).next); (have x1 := (E1).next); (try simp only [rsD] at *); simp -implicitDefEqProofs (disch := (first | omega | rfl | assumption | (simp only [rsD]; first | omega | assumption))) only [s_bn, s_kn, bump_blk, s_ext (g2), s_ext (E1)]))⟩)
      · rintro s ⟨σ1, rfl, E1, hj⟩
        simp (config := { maxSteps := 2000000 }) -implicitDefEqProofs (disch := (first | omega | rfl | assumption | (simp only [rsD]; first | omega | assumption))) only [slices_EqualFunc_canon_Node__L1, Nat.reduceAdd, Nat.reduceMul, Nat.reduceLT, Int.reduceToNat, Int.reduceAdd, Int.reduceSub, Int.reduceMul, rsU, rsC]
        refine Ok_some.2 (.inl ⟨List.ext_getElem? fun j => ?_, σ1, rfl, E1⟩)
        by_cases c : j < l.length
        · exact hj j c
        · rw [List.getElem?_eq_none (by omega), List.getElem?_eq_none (by omega)]
    · rintro s (⟨e, σ1, hs, E1⟩ | ⟨_, σ1, hs, _⟩)
      · cases hs
        exact Ok_some.2 ⟨by simp [e], E1⟩
      · cases hs
    · rintro r (⟨_, σ1, hs, _⟩ | ⟨e, σ1, hs, E1⟩)
      · cases hs
      · cases hs; exact ⟨by simp [e], E1⟩
  · have q0 : ((l.length : Int) == (m.length : Int)) = false := s_eqF (by omega)
    simp (config := { maxSteps := 2000000 }) -implicitDefEqProofs (disch := (first | omega | rfl | assumption | (simp only [rsD]; first | omega | assumption))) only [slices_EqualFunc_canon_Node_, slices_EqualFunc_canon_Node__c, q0, Nat.reduceAdd, Nat.reduceMul, Nat.reduceLT, Int.reduceToNat, Int.reduceAdd, Int.reduceSub, Int.reduceMul, rsU, rsC]
    exact Ok_some.2 ⟨by rw [decide_eq_false (fun e => c (by rw [e]))], Ext.refl σ⟩
theorem csame {σ : AH O} {F G : FV} {v w : AV} (hF : F.At v) (hG : G.At w) (fF : F.few) (fG : G.few) : Ok (canon_Same [v, w] σ) fun r => r.1 = .b (decide (F = G)) ∧ Ext σ r.2 := by
  obtain ⟨a1, b1, c1, rfl, i1, i2, i3⟩ := hF.it
  obtain ⟨a2, b2, c2, rfl, j1, j2, j3⟩ := hG.it
  simp (config := { maxSteps := 2000000 }) -implicitDefEqProofs (disch := (first | omega | rfl | assumption | (simp only [rsD]; first | omega | assumption))) only [canon_Same, canon_Same_c, Nat.reduceAdd, Nat.reduceMul, Nat.reduceLT, Int.reduceToNat, Int.reduceAdd, Int.reduceSub, Int.reduceMul, rsU, rsC]
  refine Ok.step (eqfunc i1 j1 fF.n fG.n fF.x fG.x) fun r ⟨g1, g2⟩ => ?_
  obtain ⟨q, σ1⟩ := r
  simp only at g1 g2
  subst g1
  by_cases e1 : F.nodes = G.nodes
  · have q1 := decide_eq_true e1
    simp (config := { maxSteps := 2000000 }) -implicitDefEqProofs (disch := (first | omega | rfl | assumption | (simp only [rsD]; first | omega | assumption))) only [q1, s_ext g2, Nat.reduceAdd, Nat.reduceMul, Nat.reduceLT, Int.reduceToNat, Int.reduceAdd, Int.reduceSub, Int.reduceMul, rsU, rsC]
    refine Ok.step (sequal_i i2 j2 fF.r fG.r) fun r g => ?_
    subst g
    by_cases e2 : F.roots = G.roots
    · have q2 := decide_eq_true e2
      simp (config := { maxSteps := 2000000 }) -implicitDefEqProofs (disch := (first | omega | rfl | assumption | (simp only [rsD]; first | omega | assumption))) only [q2, s_ext g2, Nat.reduceAdd, Nat.reduceMul, Nat.reduceLT, Int.reduceToNat, Int.reduceAdd, Int.reduceSub, Int.reduceMul, rsU, rsC]
      refine Ok.step (sequal_i i3 j3 fF.w fG.w) fun r g => ?_
      subst g
      simp (config := { maxSteps := 2000000 }) -implicitDefEqProofs (disch := (first | omega | rfl | assumption | (simp only [rsD]; first | omega | assumption))) only [Nat.reduceAdd, Nat.reduceMul, Nat.reduceLT, Int.reduceToNat, Int.reduceAdd, Int.reduceSub, Int.reduceMul, rsU, rsC]
      refine Ok_some.2 ⟨?_, (ext_of (by (have x0 := (g2).next); (try simp only [rsD] at *); omega) (fun b hb => by (have x0 := (g2).next); (try simp only [rsD] at *); simp -implicitDefEqProofs (disch := (first | omega | rfl | assumption | (simp only [rsD]; first | omega | assumption))) only [s_bn, s_kn, bump_blk, s_ext (g2)]))⟩
      have : (F.weak = G.weak) ↔ F = G := ⟨fun h => by cases F; cases G; simp_all, fun h => by rw [h]⟩
      simp only [this]
    · have q2 := decide_eq_false e2
      simp (config := { maxSteps := 2000000 }) -implicitDefEqProofs (disch := (first | omega | rfl | assumption | (simp only [rsD]; first | omega | assumption))) only [q2, Nat.reduceAdd, Nat.reduceMul, Nat.reduceLT, Int.reduceToNat, Int.reduceAdd, Int.reduceSub, Int.reduceMul, rsU, rsC]
      refine Ok_some.2 ⟨?_, (ext_of (by (have x0 := (g2).next); (try simp only [rsD] at *); omega) (fun b hb => by (have x0 := (g2).next); (try simp only [rsD] at *); simp -implicitDefEqProofs (disch := (first | omega | rfl | assumption | (simp only [rsD]; first | omega | assumption))) only [s_bn, s_kn, bump_blk, s_ext (g2)]))⟩
      rw [decide_eq_false (fun h => e2 (by rw [h]))]
  · have q1 := decide_eq_false e1
    simp (config := { maxSteps := 2000000 }) -implicitDefEqProofs (disch := (first | omega | rfl | assumption | (simp only [rsD]; first | omega | assumption))) only [q1, Nat.reduceAdd, Nat.reduceMul, Nat.reduceLT, Int.reduceToNat, Int.reduceAdd, Int.reduceSub, Int.reduceMul, rsU, rsC]
    refine Ok_some.2 ⟨?_, (ext_of (by (have x0 := (g2).next); (try simp only [rsD] at *); omega) (fun b hb => by (have x0 := (g2).next); (try simp only [rsD] at *); simp -implicitDefEqProofs (disch := (first | omega | rfl | assumption | (simp only [rsD]; first | omega | assumption))) only [s_bn, s_kn, bump_blk, s_ext (g2)]))⟩
    rw [decide_eq_false (fun h => e1 (by rw [h]))]
end Go.Abs.Try
set_option linter.unusedSimpArgs false
set_option linter.unusedVariables false
set_option linter.unusedSectionVars false
set_option maxHeartbeats 1000000
namespace Go.Abs.Try
open Go Go.Abs
variable {O : Type}

structure CV where
  kind : Int
  at_ : Int
  slot : Int
  to : Int
  word : Int
  whole : NV
  list : List Int
def NV.zero : NV := ⟨⟨0, 0, 0, 0, false⟩, [], []⟩
def CV.row (c : CV) : List TV := [.lf (.i .i64 c.kind), .lf (.i .i64 c.at_), .lf (.i .i64 c.slot), .lf (.i .i64 c.to), .lf (.i .u64 c.word)] ++ (c.whole.row ++ [ints .i64 c.list])
theorem CV.len (c : CV) : c.row.length = 13 := rfl
def CV.cells (c : CV) (a b d : SA) : List AV := [.i .i64 c.kind, .i .i64 c.at_, .i .i64 c.slot, .i .i64 c.to, .i .u64 c.word, .i .i64 c.whole.h.p, .i .i64 c.whole.h.r, .i .i64 c.whole.h.site, .i .i64 c.whole.h.age, .b c.whole.h.large, .sl a c.whole.P.length, .sl b c.whole.R.length, .sl d c.list.length]
theorem CV.un {c : CV} {us : List AV} (h : ImL c.row us) : ∃ a b d, us = c.cells a b d ∧ Ints .i64 a c.whole.P ∧ Ints .u64 b c.whole.R ∧ Ints .i64 d c.list := by
  unfold CV.row at h
  cases h with
  | cons h0 h => cases h with
  | cons h1 h => cases h with
  | cons h2 h => cases h with
  | cons h3 h => cases h with
  | @cons _ _ _ vs h4 h =>
    have hw := h.take 7
    have hl := h.drop 7
    have e1 : (c.whole.row ++ [ints .i64 c.list]).take 7 = c.whole.row := by simp [NV.row, HV.cs]
    have e2 : (c.whole.row ++ [ints .i64 c.list]).drop 7 = [ints .i64 c.list] := by simp [NV.row, HV.cs]
    simp only [List.append_eq, List.nil_append] at hw hl
    rw [e1] at hw
    rw [e2] at hl
    obtain ⟨a, b, q1, ia, ib⟩ := NV.un hw
    cases hq : vs.drop 7 with
    | nil => rw [hq] at hl; cases hl
    | cons z zs =>
      rw [hq] at hl
      cases hl with
      | cons hz hc =>
        cases hc
        obtain ⟨d, rfl, id⟩ := ints_un hz
        refine ⟨a, b, d, ?_, ia, ib, id⟩
        rw [h0.leaf, h1.leaf, h2.leaf, h3.leaf, h4.leaf, ← List.take_append_drop 7 vs, q1, hq]
        rfl
theorem CV.mk_ {c : CV} {a b d : SA} (ha : Ints .i64 a c.whole.P) (hb : Ints .u64 b c.whole.R) (hd : Ints .i64 d c.list) : ImL c.row (c.cells a b d) :=
  .cons (.lf rfl) (.cons (.lf rfl) (.cons (.lf rfl) (.cons (.lf rfl) (.cons (.lf rfl) ((NV.mk_ ha hb).app (.cons (ints_mk hd) .nil))))))
theorem ints_deep (k : IntKind) (l : List Int) (d : Nat) : (ints k l).deep (d + 1) := by
  unfold ints TV.deep
  intro t ht
  obtain ⟨x, _, hx⟩ := List.mem_flatMap.1 ht
  simp [int1] at hx
  subst hx
  unfold TV.deep; trivial
theorem lf_deep (v : AV) (d : Nat) : (TV.lf v).deep d := by unfold TV.deep; trivial
theorem NV.deep (x : NV) (d : Nat) : ∀ t ∈ x.row, t.deep (d + 1) := by
  intro t ht
  simp only [NV.row, HV.cs, List.map_cons, List.map_nil, List.cons_append, List.nil_append, List.mem_cons, List.not_mem_nil, or_false] at ht
  rcases ht with rfl | rfl | rfl | rfl | rfl | rfl | rfl
  all_goals first | exact lf_deep _ _ | exact ints_deep _ _ _
theorem CV.deep (c : CV) (d : Nat) : ∀ t ∈ c.row, t.deep (d + 1) := by
  intro t ht
  simp only [CV.row, List.mem_append, List.mem_cons, List.not_mem_nil, or_false] at ht
  rcases ht with (rfl | rfl | rfl | rfl | rfl) | ht | rfl
  all_goals first | exact lf_deep _ _ | exact NV.deep c.whole d t ht | exact ints_deep _ _ _
theorem rows_deep {α : Type} {row : α → List TV} {el k n d : Nat} {l : List α} (h : ∀ x, ∀ t ∈ row x, t.deep d) : (TV.sl el k n (l.flatMap row)).deep (d + 1) := by
  unfold TV.deep
  intro t ht
  obtain ⟨x, _, hx⟩ := List.mem_flatMap.1 ht
  exact h x t hx
abbrev Chgs (a : SA) (l : List CV) : Prop := Row CV.row 13 a l

/-! ### Two nodes -/
def ch2 (n : Int) (i : Nat) (to : Int) : CV := ⟨2, n, i, to, 0, NV.zero, []⟩
def ch3 (n : Int) (i : Nat) (w : Int) : CV := ⟨3, n, i, 0, w, NV.zero, []⟩
def unlike (mk : Nat → Int → CV) (xs ys : List Int) (n : Nat) : List CV := (List.range n).flatMap fun i => if xs[i]? = ys[i]? then [] else [mk i (ys.getD i 0)]
theorem unlike_succ (mk : Nat → Int → CV) (xs ys : List Int) (n : Nat) : unlike mk xs ys (n + 1) = unlike mk xs ys n ++ (if xs[n]? = ys[n]? then [] else [mk n (ys.getD n 0)]) := by
  simp [unlike, List.range_succ, List.flatMap_append]
theorem unlike_len (mk : Nat → Int → CV) (xs ys : List Int) : ∀ n : Nat, (unlike mk xs ys n).length ≤ n
  | 0 => by simp [unlike]
  | n + 1 => by
    rw [unlike_succ, List.length_append]
    have := unlike_len mk xs ys n
    split <;> simp <;> omega
def dnodes (n : Int) (x y : NV) : List CV :=
  if x.h ≠ y.h ∨ x.P.length ≠ y.P.length ∨ x.R.length ≠ y.R.length then [⟨1, n, 0, 0, 0, y, []⟩]
  else unlike (ch2 n) x.P y.P y.P.length ++ unlike (ch3 n) x.R y.R y.R.length
/-- between two rounds -/
structure NdI (σ0 : AH O) (base : Nat) (l : List CV) (k : Nat) (s : List AV × AH O) : Prop where
  it : ∃ e σ', s = ([.sl e l.length, .i .i64 (k : Int)], σ') ∧ BldO base σ' T_diff_Change 13 CV.row e l ∧ σ0.next ≤ σ'.next ∧ ∀ b, b < base → σ'.blk b = σ0.blk b
theorem nodes_l1 {σ σ1 : AH O} {n : Int} {x y : NV} {a c b' d' : SA} {e1 e2 : Nat} (hx : x.few) (hy : y.few) (ha : Ints .i64 a x.P) (hc : Ints .i64 c y.P) (hlen : x.P.length = y.P.length) {k0 k1 : SA}
    (b0 : σ1.blk σ.next = some (.cells true e1 (x.cells a k0))) (hn : σ.next + 2 ≤ σ1.next) :
    Ok (loopF (S := List AV × AH O) (T := List AV × AH O) (diff_nodes_L1 (c, y.P.length) σ n) ([.sl .nil 0, .i .i64 0], σ1)) fun r => ∃ e σ', r = ([.sl e (unlike (ch2 n) x.P y.P y.P.length).length], σ') ∧ BldO (σ.next + 2) σ' T_diff_Change 13 CV.row e (unlike (ch2 n) x.P y.P y.P.length) ∧ σ1.next ≤ σ'.next ∧ ∀ b, b < σ.next + 2 → σ'.blk b = σ1.blk b := by
  refine Ok.count y.P.length (fun k s => NdI σ1 (σ.next + 2) (unlike (ch2 n) x.P y.P k) k s) ?_ ?_ ⟨.nil, σ1, rfl, BldO.nil _ _ _ CV.len, Nat.le_refl _, fun _ _ => rfl⟩
  · rintro k s hk ⟨e, σ2, rfl, B, hn2, ho⟩
    obtain ⟨u, hu⟩ : ∃ u, x.P[k]? = some u := ⟨_, List.getElem?_eq_getElem (by omega)⟩
    obtain ⟨w, hw⟩ : ∃ w, y.P[k]? = some w := ⟨_, List.getElem?_eq_getElem hk⟩
    obtain ⟨p1, o1, rfl, l1⟩ := ha.at hu
    obtain ⟨p2, o2, rfl, l2⟩ := hc.at hw
    have c0 := (ho σ.next (by omega)).trans b0
    have hl := unlike_len (ch2 n) x.P y.P k
    have hfew := hy.p
    unfold NV.cells at c0
    by_cases q : u = w
    · have q1 := s_eqT q
      simp (config := { maxSteps := 2000000 }) -implicitDefEqProofs (disch := (first | omega | rfl | assumption | (simp only [rsD]; first | omega | assumption))) only [diff_nodes_L1, c0, l1, l2, q1, Nat.reduceAdd, Nat.reduceMul, Nat.reduceLT, Int.reduceToNat, Int.reduceAdd, Int.reduceSub, Int.reduceMul, rsU, rsC]
      refine Ok_some.2 ⟨e, σ2, ?_, ?_, hn2, ho⟩
      · rw [unlike_succ, hu, hw, q]; simp
      · rw [unlike_succ, hu, hw, q]; simpa using B
    · have q1 := s_eqF q
      simp (config := { maxSteps := 2000000 }) -implicitDefEqProofs (disch := (first | omega | rfl | assumption | (simp only [rsD]; first | omega | assumption))) only [diff_nodes_L1, c0, l1, l2, q1, Nat.reduceAdd, Nat.reduceMul, Nat.reduceLT, Int.reduceToNat, Int.reduceAdd, Int.reduceSub, Int.reduceMul, rsU, rsC]
      refine Ok.step (B.app1 (x := ch2 n k w) (σ2 := σ2) (by omega) (New.im (CV.mk_ (c := ch2 n k w) (a := .nil) (b := .nil) (d := .nil) (Row.nil (int1_len _)) (Row.nil (int1_len _)) (Row.nil (int1_len _))) (Ext.refl _)) (ext_of (by (try simp only [rsD] at *); omega) (fun b hb => by (try simp only [rsD] at *); simp -implicitDefEqProofs (disch := (first | omega | rfl | assumption | (simp only [rsD]; first | omega | assumption))) only [s_bn, s_kn, bump_blk])) (by omega) (by simp)) fun r ⟨e', g1, g2, g3, g4, g5⟩ => ?_
      obtain ⟨z, σ3⟩ := r
      simp only at g1 g2 g3 g4
      subst g1
      have hbk := B.bk
      simp (config := { maxSteps := 2000000 }) -implicitDefEqProofs (disch := (first | omega | rfl | assumption | (simp only [rsD]; first | omega | assumption))) only [Nat.reduceAdd, Nat.reduceMul, Nat.reduceLT, Int.reduceToNat, Int.reduceAdd, Int.reduceSub, Int.reduceMul, rsU, rsC]
      have eu : unlike (ch2 n) x.P y.P (k + 1) = unlike (ch2 n) x.P y.P k ++ [ch2 n k w] := by
        rw [unlike_succ, hu, hw, if_neg (by simpa using q)]; simp [hw]
      refine Ok_some.2 ⟨e', σ3, ?_, ?_, by rw [g3]; simp; omega, fun b hb => ?_⟩
      · rw [eu]; simp
      · rw [eu]; exact g2
      · rw [g4 b (by omega) (fun hm => by have := hbk b hm; omega), ← ho b hb]; ((try simp only [rsD] at *); simp -implicitDefEqProofs (disch := (first | omega | rfl | assumption | (simp only [rsD]; first | omega | assumption))) only [s_bs, s_bn, s_kn, bump_blk])
  · rintro s ⟨e, σ2, rfl, B, hn2, ho⟩
    simp (config := { maxSteps := 2000000 }) -implicitDefEqProofs (disch := (first | omega | rfl | assumption | (simp only [rsD]; first | omega | assumption))) only [diff_nodes_L1, Nat.reduceAdd, Nat.reduceMul, Nat.reduceLT, Int.reduceToNat, Int.reduceAdd, Int.reduceSub, Int.reduceMul, rsU, rsC]
    exact Ok_some.2 ⟨e, σ2, rfl, B, hn2, ho⟩
end Go.Abs.Try
