/-
  Forms as plain data. No conditions.
-/
import Derived.Test.YteklninbijohcaaN3
set_option linter.unusedVariables false
set_option linter.unusedSimpArgs false
set_option linter.constructorNameAsVariable false
namespace Go.Abs
open Go
variable {O : Type}

structure HV where
  p : Int
  r : Int
  site : Int
  age : Int
  large : Bool
  deriving DecidableEq
structure NV where
  h : HV
  P : List Int
  R : List Int
  deriving DecidableEq
structure FV where
  nodes : List NV
  roots : List Int
  weak : List Int
  deriving DecidableEq
def HV.cs (h : HV) : List AV := [.i .i64 h.p, .i .i64 h.r, .i .i64 h.site, .i .i64 h.age, .b h.large]
def elK : IntKind → Nat | .i64 => 3 | .u64 => 22 | .u8 => 5 | _ => 0
def ints (k : IntKind) (l : List Int) : TV := .sl (elK k) 1 l.length (l.flatMap (int1 k))
theorem ints_un {k : IntKind} {l : List Int} {v : AV} (h : Im (ints k l) v) : ∃ a, v = .sl a l.length ∧ Ints k a l := Row.of (int1_len k) h rfl
theorem ints_mk {k : IntKind} {l : List Int} {a : SA} (h : Ints k a l) : Im (ints k l) (.sl a l.length) := h.im _
def NV.row (x : NV) : List TV := x.h.cs.map TV.lf ++ [ints .i64 x.P, ints .u64 x.R]
theorem NV.len (x : NV) : x.row.length = 7 := rfl
def NV.cells (x : NV) (a b : SA) : List AV := [.i .i64 x.h.p, .i .i64 x.h.r, .i .i64 x.h.site, .i .i64 x.h.age, .b x.h.large, .sl a x.P.length, .sl b x.R.length]
theorem NV.un {x : NV} {us : List AV} (h : ImL x.row us) : ∃ a b, us = x.cells a b ∧ Ints .i64 a x.P ∧ Ints .u64 b x.R := by
  unfold NV.row HV.cs at h
  cases h with
  | cons h0 h => cases h with
  | cons h1 h => cases h with
  | cons h2 h => cases h with
  | cons h3 h => cases h with
  | cons h4 h => cases h with
  | cons h5 h => cases h with
  | cons h6 h => cases h with
  | nil =>
    obtain ⟨a, rfl, ia⟩ := ints_un h5
    obtain ⟨b, rfl, ib⟩ := ints_un h6
    rw [h0.leaf, h1.leaf, h2.leaf, h3.leaf, h4.leaf]
    exact ⟨a, b, rfl, ia, ib⟩
theorem NV.mk_ {x : NV} {a b : SA} (ha : Ints .i64 a x.P) (hb : Ints .u64 b x.R) : ImL x.row (x.cells a b) :=
  .cons (.lf rfl) (.cons (.lf rfl) (.cons (.lf rfl) (.cons (.lf rfl) (.cons (.lf rfl) (.cons (ints_mk ha) (.cons (ints_mk hb) .nil))))))
abbrev Nodes (a : SA) (l : List NV) : Prop := Row NV.row 7 a l
structure FV.At (F : FV) (v : AV) : Prop where
  it : ∃ a b c, v = .agg [.sl a F.nodes.length, .sl b F.roots.length, .sl c F.weak.length] ∧ Nodes a F.nodes ∧ Ints .i64 b F.roots ∧ Ints .i64 c F.weak
/-- one node's cells, wherever it is read -/
theorem Row.node {a : SA} {l : List NV} (h : Nodes a l) {i : Nat} {x : NV} (hx : l[i]? = some x) : ∃ b o c d, a = .loc b o 7 ∧ Ints .i64 c x.P ∧ Ints .u64 d x.R ∧ ∀ (O : Type) (σ : AH O),
    σ.ld b (o + i * 7) = some (.i .i64 x.h.p) ∧ σ.ld b (o + i * 7 + 1) = some (.i .i64 x.h.r) ∧ σ.ld b (o + i * 7 + 2) = some (.i .i64 x.h.site) ∧ σ.ld b (o + i * 7 + 3) = some (.i .i64 x.h.age) ∧ σ.ld b (o + i * 7 + 4) = some (.b x.h.large) ∧ σ.ld b (o + i * 7 + 5) = some (.sl c x.P.length) ∧ σ.ld b (o + i * 7 + 6) = some (.sl d x.R.length) := by
  obtain ⟨b, o, us, e, h1, h2⟩ := h.get hx
  obtain ⟨c, d, rfl, hc, hd⟩ := NV.un h1
  refine ⟨b, o, c, d, e, hc, hd, fun O σ => ⟨?_, ?_, ?_, ?_, ?_, ?_, ?_⟩⟩
  · exact h2 O σ 0 (by decide)
  · exact h2 O σ 1 (by decide)
  · exact h2 O σ 2 (by decide)
  · exact h2 O σ 3 (by decide)
  · exact h2 O σ 4 (by decide)
  · exact h2 O σ 5 (by decide)
  · exact h2 O σ 6 (by decide)
/-- not much -/
structure NV.few (x : NV) : Prop where
  p : x.P.length ≤ 100000
  r : x.R.length ≤ 100000
structure FV.few (F : FV) : Prop where
  n : F.nodes.length ≤ 100000
  x : ∀ x ∈ F.nodes, x.few
  r : F.roots.length ≤ 100000
  w : F.weak.length ≤ 100000
/-- a loop that compares two lists, number by number -/
theorem eq_loop {S T : Type} {f : S → Option (S ⊕ T)} {l m : List Int} (hl : l.length = m.length) (I : Nat → S → Prop) (Q : T → Prop) (hs : ∀ k s, k < l.length → I k s → Ok (f s) fun r => if l[k]? = m[k]? then (match r with | .inl s' => I (k + 1) s' | .inr _ => False) else (match r with | .inl _ => False | .inr t => l ≠ m → Q t))
    (he : ∀ s, I l.length s → Ok (f s) fun r => match r with | .inl _ => False | .inr t => l = m → Q t) {s : S} (h0 : I 0 s) : Ok (loopF f s) Q := by
  refine Ok.count l.length (fun k s => I k s ∧ ∀ j, j < k → l[j]? = m[j]?) ?_ ?_ ⟨h0, fun j hj => by omega⟩
  · rintro k s hk ⟨h1, h2⟩
    refine (hs k s hk h1).mono fun r hr => ?_
    by_cases c : l[k]? = m[k]?
    · rw [if_pos c] at hr
      cases r with
      | inl s' => exact ⟨hr, fun j hj => by
          by_cases e : j = k
          · subst e; exact c
          · exact h2 j (by omega)⟩
      | inr t => exact hr.elim
    · rw [if_neg c] at hr
      cases r with
      | inl s' => exact hr.elim
      | inr t => exact hr fun e => c (by rw [e])
  · rintro s ⟨h1, h2⟩
    refine (he s h1).mono fun r hr => ?_
    cases r with
    | inl s' => exact hr.elim
    | inr t =>
      refine hr (List.ext_getElem? fun j => ?_)
      by_cases c : j < l.length
      · exact h2 j c
      · rw [List.getElem?_eq_none (by omega), List.getElem?_eq_none (by omega)]
end Go.Abs
