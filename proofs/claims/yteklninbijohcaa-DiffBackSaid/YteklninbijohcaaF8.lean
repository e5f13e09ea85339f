/-
  A node that is worked on: one number is written. No conditions.
-/
import Derived.Test.YteklninbijohcaaF7
set_option linter.unusedVariables false
set_option linter.unusedSimpArgs false
set_option linter.constructorNameAsVariable false
set_option linter.unusedSimpArgs false
set_option linter.unusedVariables false
set_option linter.unusedSectionVars false
set_option maxHeartbeats 1000000
namespace Go.Abs.Try
open Go Go.Abs
variable {O : Type}

theorem ow_put {σ : AH O} {t : TV} {v : AV} {L : List Nat} {e : Nat} {x : Blk O} (h : Ow σ t v L) (he : e ∉ L) : Ow (σ.put e x) t v L :=
  Ow.of (σ := σ) (σ' := σ.put e x) (Nat.le_refl σ.next) h fun y hy => s_bn fun e => he (e ▸ hy)
theorem owl_put {σ : AH O} {t : List TV} {v : List AV} {L : List Nat} {e : Nat} {x : Blk O} (h : OwL σ t v L) (he : e ∉ L) : OwL (σ.put e x) t v L :=
  OwL.of (σ := σ) (σ' := σ.put e x) (Nat.le_refl σ.next) h fun y hy => s_bn fun e => he (e ▸ hy)
theorem owl_one {σ : AH O} {t : TV} {v : AV} {L : List Nat} (h : OwL σ [t] [v] L) : Ow σ t v L := by
  cases h with | cons h hc hd => cases hc; simpa using h
theorem ow_ints {σ : AH O} {k : IntKind} {l : List Int} {v : AV} {L : List Nat} (h : Ow σ (ints k l) v L) : ∃ a, v = .sl a l.length := by
  obtain ⟨a, _, _, rfl, _⟩ := h.rd
  exact ⟨a, rfl⟩
theorem NV.unO {σ : AH O} {x : NV} {u : List AV} {M : List Nat} (h : OwL σ x.row u M) : ∃ c d A B, u = x.cells c d ∧ Ow σ (ints .i64 x.P) (.sl c x.P.length) A ∧ Ow σ (ints .u64 x.R) (.sl d x.R.length) B ∧ M = A ++ B ∧ ∀ y ∈ A, y ∉ B := by
  obtain ⟨v, w, A, B, rfl, rfl, h1, h2, h3⟩ := OwL.cut (ts := x.h.cs.map TV.lf) (us := [ints .i64 x.P, ints .u64 x.R]) h
  obtain ⟨rfl, rfl⟩ := h1.ofLeaves
  cases h2 with
  | cons g1 gc gd =>
    cases gc with
    | cons g2 gc2 gd2 =>
      cases gc2
      obtain ⟨c, rfl⟩ := ow_ints g1
      obtain ⟨d, rfl⟩ := ow_ints g2
      refine ⟨c, d, _, _, rfl, g1, g2, by simp, ?_⟩
      simpa using gd
theorem NV.mkO {σ : AH O} {x : NV} {c d : SA} {A B : List Nat} (h1 : Ow σ (ints .i64 x.P) (.sl c x.P.length) A) (h2 : Ow σ (ints .u64 x.R) (.sl d x.R.length) B) (hd : ∀ y ∈ A, y ∉ B) : OwL σ x.row (x.cells c d) (A ++ B) := by
  have h := OwL.app (OwL.im (σ := σ) (ImL.lfs (vs := x.h.cs) rfl)) (OwL.cons h1 (OwL.cons h2 .nil (by simp)) (by simpa using hd)) (by simp)
  simpa [NV.row, NV.cells, HV.cs] using h
/-- one number of a slice of our own -/
theorem ints_poke {σ : AH O} {k : IntKind} {l : List Int} {a : SA} {L : List Nat} (h : Ow σ (ints k l) (.sl a l.length) L) (hm : (AV.sl a l.length).mine = true) {s : Nat} (hs : s < l.length) : ∃ e rest, a = .loc (.n e) 0 1 ∧ L = [e] ∧ e < σ.next ∧ σ.blk e = some (.cells true (elK k) (l.map (AV.i k) ++ rest)) ∧
    ∀ (σ' : AH O) (v : Int), σ.next ≤ σ'.next → σ'.blk e = some (.cells true (elK k) ((l.set s v).map (AV.i k) ++ rest)) → Ow σ' (ints k (l.set s v)) (.sl a (l.set s v).length) [e] := by
  obtain ⟨e, rest, vs, M, rfl, h1, h2, h3, h4, rfl, h6⟩ := h.open_ hm (by omega)
  rw [int1_flat] at h4
  obtain ⟨rfl, rfl⟩ := h4.ofLeaves
  refine ⟨e, rest, rfl, rfl, h3, h1, fun σ' v hn hb => ?_⟩
  exact .sl (L := []) (OwnP.new (by simp) hb (by omega)) (by rw [int1_flat]; exact OwL.im (ImL.lfs (flat_ints _))) (by simp)
theorem map_poke {k : IntKind} {l : List Int} {rest : List AV} {s : Nat} {v : Int} (hs : s < l.length) : splice (l.map (AV.i k) ++ rest) s [.i k v] = (l.set s v).map (AV.i k) ++ rest := by
  rw [splice_set (by simp; omega), List.set_append_left _ _ (by simpa using hs), List.map_set]
theorem NV.pokeP {σ : AH O} {x : NV} {c d : SA} {A B : List Nat} (h1 : Ow σ (ints .i64 x.P) (.sl c x.P.length) A) (h2 : Ow σ (ints .u64 x.R) (.sl d x.R.length) B) (hd : ∀ y ∈ A, y ∉ B) (hm : (AV.sl c x.P.length).mine = true) {s : Nat} (hs : s < x.P.length) : ∃ e rest, c = .loc (.n e) 0 1 ∧ A = [e] ∧ e < σ.next ∧ σ.blk e = some (.cells true 3 (x.P.map (AV.i .i64) ++ rest)) ∧
    ∀ (v : Int), OwL (σ.put e (.cells true 3 ((x.P.set s v).map (AV.i .i64) ++ rest))) (⟨x.h, x.P.set s v, x.R⟩ : NV).row (x.cells c d) (A ++ B) := by
  obtain ⟨e, rest, rfl, rfl, g1, g2, g3⟩ := ints_poke h1 hm hs
  refine ⟨e, rest, rfl, rfl, g1, g2, fun v => ?_⟩
  have := NV.mkO (x := ⟨x.h, x.P.set s v, x.R⟩) (g3 (σ.put e (.cells true 3 ((x.P.set s v).map (AV.i .i64) ++ rest))) v (Nat.le_refl _) s_bs) (ow_put h2 (hd e (by simp))) (by simpa using hd)
  simpa [NV.cells] using this
theorem NV.pokeR {σ : AH O} {x : NV} {c d : SA} {A B : List Nat} (h1 : Ow σ (ints .i64 x.P) (.sl c x.P.length) A) (h2 : Ow σ (ints .u64 x.R) (.sl d x.R.length) B) (hd : ∀ y ∈ A, y ∉ B) (hm : (AV.sl d x.R.length).mine = true) {s : Nat} (hs : s < x.R.length) : ∃ e rest, d = .loc (.n e) 0 1 ∧ B = [e] ∧ e < σ.next ∧ σ.blk e = some (.cells true 22 (x.R.map (AV.i .u64) ++ rest)) ∧
    ∀ (v : Int), OwL (σ.put e (.cells true 22 ((x.R.set s v).map (AV.i .u64) ++ rest))) (⟨x.h, x.P, x.R.set s v⟩ : NV).row (x.cells c d) (A ++ B) := by
  obtain ⟨e, rest, rfl, rfl, g1, g2, g3⟩ := ints_poke h2 hm hs
  refine ⟨e, rest, rfl, rfl, g1, g2, fun v => ?_⟩
  have := NV.mkO (x := ⟨x.h, x.P, x.R.set s v⟩) (ow_put h1 fun hy => hd e hy (by simp)) (g3 (σ.put e (.cells true 22 ((x.R.set s v).map (AV.i .u64) ++ rest))) v (Nat.le_refl _) s_bs) hd
  simpa [NV.cells] using this
end Go.Abs.Try
