/-
  Rows of plain data: read where they are frozen, built up in a block of their own, frozen then. No conditions.
-/
import Derived.Test.YteklninbijohcaaN1
set_option linter.unusedVariables false
set_option linter.unusedSimpArgs false
set_option linter.constructorNameAsVariable false
namespace Go.Abs
open Go
variable {O : Type}

/-- a frozen slice of things, each so many cells -/
structure Row {α : Type} (row : α → List TV) (k : Nat) (a : SA) (l : List α) : Prop where
  hk : ∀ x, (row x).length = k
  it : ∃ vs, Imm k a l.length vs ∧ ImL (l.flatMap row) vs
theorem Row.im {α : Type} {row : α → List TV} {k : Nat} {a : SA} {l : List α} (h : Row row k a l) (el : Nat) : Im (.sl el k l.length (l.flatMap row)) (.sl a l.length) := by
  obtain ⟨vs, h1, h2⟩ := h.it; exact .sl h1 h2
theorem Row.bk {α : Type} {row : α → List TV} {k : Nat} {a : SA} {l : List α} (h : Row row k a l) : SA.bk a = [] := by
  obtain ⟨vs, h1, h2⟩ := h.it; exact h1.bk
theorem Row.of {α : Type} {row : α → List TV} {k el n : Nat} {l : List α} {v : AV} (hk : ∀ x, (row x).length = k) (h : Im (.sl el k n (l.flatMap row)) v) (hn : n = l.length) : ∃ a, v = .sl a l.length ∧ Row row k a l := by
  subst hn
  obtain ⟨a, vs, rfl, h1, h2⟩ := h.rd
  exact ⟨a, rfl, hk, vs, h1, h2⟩
theorem Row.nil {α : Type} {row : α → List TV} {k : Nat} (hk : ∀ x, (row x).length = k) : Row row k .nil [] := ⟨hk, [], Imm.nil k, .nil⟩
/-- one of them -/
theorem Row.get {α : Type} {row : α → List TV} {k : Nat} {a : SA} {l : List α} (h : Row row k a l) {i : Nat} {x : α} (hx : l[i]? = some x) :
    ∃ b o us, a = .loc b o k ∧ ImL (row x) us ∧ ∀ (O : Type) (σ : AH O) (j : Nat), j < k → σ.ld b (o + i * k + j) = us[j]? := by
  obtain ⟨vs, h1, h2⟩ := h.it
  have hi := (List.getElem?_eq_some_iff.1 hx).1
  obtain ⟨b, o, rfl, _⟩ := (h1 Unit ⟨fun _ => none, 0⟩).ref hi
  have hlen := h1.len
  have hle : i * k + k ≤ l.length * k := by rw [← Nat.succ_mul]; exact Nat.mul_le_mul_right _ hi
  refine ⟨b, o, (vs.drop (i * k)).take k, rfl, ?_, fun O σ j hj => ?_⟩
  · have := (h2.drop (i * k)).take k
    have e : ((l.flatMap row).drop (i * k)).take k = row x := by
      apply List.ext_getElem?
      intro j
      rw [List.getElem?_take]
      split
      · rename_i hj
        rw [List.getElem?_drop, fmt_get h.hk _ _ _ hj, hx]; rfl
      · rename_i hj
        rw [List.getElem?_eq_none]
        rw [h.hk]; omega
    rw [e] at this; exact this
  · obtain ⟨b', o', e, h3⟩ := (h1 O σ).ref hi
    cases e
    rw [h3 j hj, List.getElem?_take, if_pos hj, List.getElem?_drop]
/-- all cells -/
theorem Row.all {α : Type} {row : α → List TV} {k : Nat} {a : SA} {l : List α} (h : Row row k a l) : ∃ vs, vs.length = l.length * k ∧ ImL (l.flatMap row) vs ∧ ∀ (O : Type) (σ : AH O), σ.rdSl a l.length k = some vs := by
  obtain ⟨vs, h1, h2⟩ := h.it
  exact ⟨vs, h1.len, h2, fun O σ => (h1 O σ).rdSl⟩
/-- a part -/
theorem flat_drop {α : Type} {row : α → List TV} {k : Nat} (hk : ∀ x, (row x).length = k) : ∀ (l : List α) (i : Nat), (l.drop i).flatMap row = (l.flatMap row).drop (i * k)
  | l, 0 => by simp
  | [], i + 1 => by simp
  | x :: l, i + 1 => by
    rw [List.drop_succ_cons, flat_drop hk l i, List.flatMap_cons, List.drop_append, List.drop_eq_nil_of_le (as := row x) (by rw [hk, Nat.succ_mul]; omega), hk, Nat.succ_mul, Nat.add_sub_cancel]; rfl
theorem flat_take {α : Type} {row : α → List TV} {k : Nat} (hk : ∀ x, (row x).length = k) : ∀ (l : List α) (i : Nat), (l.take i).flatMap row = (l.flatMap row).take (i * k)
  | l, 0 => by simp
  | [], i + 1 => by simp
  | x :: l, i + 1 => by
    rw [List.take_succ_cons, List.flatMap_cons, List.flatMap_cons, flat_take hk l i, List.take_append, hk, List.take_of_length_le (l := row x) (by rw [hk, Nat.succ_mul]; omega), Nat.succ_mul, Nat.add_sub_cancel]
theorem Row.part {α : Type} {row : α → List TV} {k : Nat} {a : SA} {l : List α} (h : Row row k a l) {lo n : Nat} (hn : lo + n ≤ l.length) : ∃ a', a.adv lo k = some a' ∧ Row row k a' ((l.drop lo).take n) := by
  obtain ⟨vs, h1, h2⟩ := h.it
  obtain ⟨a', g1, g2⟩ := h1.adv hn
  refine ⟨a', g1, h.hk, (vs.drop (lo * k)).take (n * k), ?_, ?_⟩
  · have : ((l.drop lo).take n).length = n := by simp; omega
    rw [this]; exact g2
  · rw [flat_take h.hk, flat_drop h.hk]
    exact (h2.drop _).take _
/-! ### Numbers -/
def int1 (k : IntKind) (n : Int) : List TV := [.lf (.i k n)]
theorem int1_len (k : IntKind) (n : Int) : (int1 k n).length = 1 := rfl
theorem int1_flat (k : IntKind) : ∀ l : List Int, l.flatMap (int1 k) = (l.map (AV.i k)).map TV.lf
  | [] => rfl
  | x :: l => by rw [List.flatMap_cons, int1_flat k l]; rfl
abbrev Ints (k : IntKind) (a : SA) (l : List Int) : Prop := Row (int1 k) 1 a l
theorem Ints.mk {k : IntKind} {a : SA} {l : List Int} (h : Imm 1 a l.length (l.map (AV.i k))) : Ints k a l := ⟨int1_len k, _, h, by rw [int1_flat]; exact ImL.lfs (flat_ints l)⟩
theorem Ints.imm {k : IntKind} {a : SA} {l : List Int} (h : Ints k a l) : Imm 1 a l.length (l.map (AV.i k)) := by
  obtain ⟨vs, h1, h2⟩ := h.it
  rw [int1_flat] at h2
  rw [h2.ofLeaves] at h1; exact h1
theorem Ints.at {k : IntKind} {a : SA} {l : List Int} (h : Ints k a l) {i : Nat} {x : Int} (hx : l[i]? = some x) : ∃ b o, a = .loc b o 1 ∧ ∀ (O : Type) (σ : AH O), σ.ld b (o + i) = some (.i k x) := by
  obtain ⟨b, o, us, e, h1, h2⟩ := h.get hx
  refine ⟨b, o, e, fun O σ => ?_⟩
  have := h2 O σ 0 (by decide)
  rw [Nat.mul_one, Nat.add_zero] at this
  rw [this]
  cases h1 with
  | cons h1 hc => rw [h1.leaf]; rfl

/-! ### What is built up -/
structure Bld {α : Type} (σ : AH O) (el k : Nat) (row : α → List TV) (a : SA) (l : List α) : Prop where
  hk : ∀ x, (row x).length = k
  it : ∃ vs, OwnS σ el k a l.length vs ∧ ImL (l.flatMap row) vs
section bld
variable {α : Type} {σ : AH O} {el k : Nat} {row : α → List TV} {a : SA} {l : List α}
theorem Bld.nil (σ : AH O) (el : Nat) (hk : ∀ x, (row x).length = k) : Bld σ el k row .nil [] := ⟨hk, [], OwnS.nil _ _ _, .nil⟩
theorem Bld.z (σ : AH O) (el : Nat) (hk : ∀ x, (row x).length = k) : Bld σ el k row .z [] := ⟨hk, [], OwnS.z _ _ _, .nil⟩
theorem Bld.of {σ' : AH O} (h : Bld σ el k row a l) (hn : σ.next ≤ σ'.next) (hb : ∀ b ∈ SA.bk a, σ'.blk b = σ.blk b) : Bld σ' el k row a l := by
  obtain ⟨vs, h1, h2⟩ := h.it; exact ⟨h.hk, vs, h1.of hn hb, h2⟩
theorem Bld.lt (h : Bld σ el k row a l) : ∀ b ∈ SA.bk a, b < σ.next := by obtain ⟨vs, h1, h2⟩ := h.it; exact h1.lt
theorem Bld.ext {σ' : AH O} (h : Bld σ el k row a l) (hE : Ext σ σ') : Bld σ' el k row a l := h.of hE.next fun b hb => hE.blk b (h.lt b hb)
/-- so many more -/
theorem Bld.app (h : Bld σ el k row a l) {nid : Nat} {new : List AV} {m : List α} (hne : nid ∉ SA.bk a) (hlt : nid < σ.next) (hm : ImL (m.flatMap row) new) :
    Ok (σ.appSl nid el k a l.length m.length new) fun r => ∃ a', r.1 = .sl a' (l.length + m.length) ∧ Bld r.2 el k row a' (l ++ m) ∧ r.2.next = σ.next ∧ (∀ b, b ≠ nid → b ∉ SA.bk a → r.2.blk b = σ.blk b) ∧ ∀ b ∈ SA.bk a', b = nid := by
  obtain ⟨vs, h1, h2⟩ := h.it
  refine (app_ok h1 hne hlt (by rw [hm.len, fmt_len h.hk])).mono ?_
  rintro ⟨q, σ'⟩ ⟨a', g1, g2, g3, g4, g5⟩
  refine ⟨a', g1, ⟨h.hk, vs ++ new, ?_, ?_⟩, g3, g4, g5⟩
  · rw [List.length_append]; exact g2
  · rw [List.flatMap_append]; exact h2.app hm
theorem Bld.app1 (h : Bld σ el k row a l) {nid : Nat} {new : List AV} {x : α} (hne : nid ∉ SA.bk a) (hlt : nid < σ.next) (hm : ImL (row x) new) :
    Ok (σ.appSl nid el k a l.length 1 new) fun r => ∃ a', r.1 = .sl a' (l.length + 1) ∧ Bld r.2 el k row a' (l ++ [x]) ∧ r.2.next = σ.next ∧ (∀ b, b ≠ nid → b ∉ SA.bk a → r.2.blk b = σ.blk b) ∧ ∀ b ∈ SA.bk a', b = nid :=
  h.app (m := [x]) hne hlt (by simpa using hm)
/-- frozen -/
theorem Bld.fz {d : Nat} {H : Nat → Option (Blk O)} (h : Bld σ el k row a l) (hH : ∀ b ∈ SA.bk a, H b = σ.blk b) : ∃ a', FZ (d + 2) H (SA.bk a) (.sl a l.length) (.sl a' l.length) ∧ Row row k a' l := by
  obtain ⟨vs, h1, h2⟩ := h.it
  obtain ⟨a', g1, g2⟩ := FZ.sl (d := d) (H := H) (L := []) h1 hH (FZL.flat h2.flat) rfl (by simp)
  rw [List.append_nil] at g1
  exact ⟨a', g1, h.hk, vs, g2, h2⟩
theorem Bld.rd (h : Bld σ el k row a l) : ∃ vs, Rd σ k a l.length vs ∧ ImL (l.flatMap row) vs := by
  obtain ⟨vs, h1, h2⟩ := h.it; exact ⟨vs, h1.rd, h2⟩
/-- one of them is read -/
theorem Bld.get (h : Bld σ el k row a l) {i : Nat} {x : α} (hx : l[i]? = some x) : ∃ b us, a = .loc (.n b) 0 k ∧ b < σ.next ∧ ImL (row x) us ∧ (∀ j, j < k → σ.ld (.n b) (i * k + j) = us[j]?) := by
  obtain ⟨vs, h1, h2⟩ := h.it
  have hi := (List.getElem?_eq_some_iff.1 hx).1
  obtain ⟨b, rfl, hb, hlt⟩ := h1.loc (by omega)
  have hlen := h1.len
  refine ⟨b, (vs.drop (i * k)).take k, rfl, hlt, ?_, fun j hj => ?_⟩
  · have := (h2.drop (i * k)).take k
    have e : ((l.flatMap row).drop (i * k)).take k = row x := by
      apply List.ext_getElem?
      intro j
      rw [List.getElem?_take]
      split
      · rename_i hj
        rw [List.getElem?_drop, fmt_get h.hk _ _ _ hj, hx]; rfl
      · rename_i hj
        rw [List.getElem?_eq_none]
        rw [h.hk]; omega
    rw [e] at this; exact this
  · rw [s_ld, hb, s_ldM, List.getElem?_take, if_pos hj, List.getElem?_drop]
end bld
/-- what a function gives back: a frozen value; the heap is as it was -/
theorem frz_row {α : Type} {s : Sm O} {xs : List AV} {σ : AH O} {el k : Nat} {row : α → List TV} {l : List α} (h : Ok (s xs σ) fun r => ∃ a, r.1 = .sl a l.length ∧ Bld r.2 el k row a l ∧ (∀ b ∈ SA.bk a, σ.next ≤ b) ∧ Ext σ r.2) :
    Ok (frz s xs σ) fun r => (∃ a, r.1 = .sl a l.length ∧ Row row k a l) ∧ Ext σ r.2 := by
  refine frz_ok (Q := fun v => ∃ a, v = .sl a l.length ∧ Row row k a l) (h.mono ?_)
  rintro ⟨v, σ'⟩ ⟨a, rfl, h1, h2, h3⟩
  obtain ⟨a', g1, g2⟩ := h1.fz (d := 6) (H := σ'.blk) fun _ _ => rfl
  exact ⟨_, _, g1, h2, h3, a', rfl, g2⟩
theorem Bld.new {α : Type} {σ : AH O} {el k b : Nat} {row : α → List TV} (hk : ∀ x, (row x).length = k) (h : σ.blk b = some (.cells true el [])) (hb : b < σ.next) : Bld σ el k row (.loc (.n b) 0 k) [] := ⟨hk, [], OwnS.new (by simp) h hb, .nil⟩
theorem Row.isNil {α : Type} {row : α → List TV} {k : Nat} {a : SA} {l : List α} (h : Row row k a l) (hn : SA.isNil a = true) : a = .nil ∧ l = [] := by
  obtain ⟨vs, h1, _⟩ := h.it
  have := (h1 Unit ⟨fun _ => none, 0⟩).wh
  cases a with
  | nil => exact ⟨rfl, List.eq_nil_of_length_eq_zero this.1⟩
  | z => cases hn
  | loc b o e => cases hn
/-- a frozen slice is given on -/
theorem fz_row {α : Type} {row : α → List TV} {k d : Nat} {H : Nat → Option (Blk O)} {a : SA} {l : List α} (h : Row row k a l) : FZ (d + 1) H [] (.sl a l.length) (.sl a l.length) := FZ.flat (h.im 0).flat
end Go.Abs
