/-
  The document of layer 10: what it makes is frozen. No conditions.
-/
import Derived.Test.YtjfblnpolgoojaaR10
set_option linter.unusedVariables false
set_option linter.unusedSimpArgs false
set_option linter.constructorNameAsVariable false
set_option linter.unusedSimpArgs false
set_option linter.unusedVariables false
set_option linter.unusedSectionVars false
set_option maxHeartbeats 1000000
namespace Go.Abs.Try
open Go Go.Abs
variable {O : Type}

theorem DS.deep_l (S : DS) : S.tl.deep 5 := by
  unfold DS.tl TV.deep
  intro t ht
  obtain ⟨e, _, he⟩ := List.mem_flatMap.1 ht
  simp only [DE.row, List.mem_cons, List.not_mem_nil, or_false] at he
  rcases he with rfl | rfl | rfl
  · unfold TV.deep; trivial
  · unfold TV.deep; trivial
  · unfold TV.deep
    intro t ht
    obtain ⟨x, _, rfl⟩ := List.mem_map.1 ht
    unfold TV.deep; trivial
theorem DS.deep_f (S : DS) : S.tf.deep 5 := by
  unfold DS.tf TV.deep
  intro t ht
  obtain ⟨x, _, rfl⟩ := List.mem_map.1 ht
  unfold TV.deep; trivial
theorem DS.fz {σ : AH O} {S : DS} {a b : SA} {vs : List AV} {L : List Nat} (o : OwnS σ 130 3 a S.L.length vs) (c : OwL σ (S.L.flatMap DE.row) vs L) (p : OwnS σ 3 1 b S.free.length (S.free.map (AV.i .i64))) (d1 : ∀ x ∈ SA.bk a, x ∉ L) (d2 : ∀ x ∈ SA.bk b, x ∉ SA.bk a ++ L) :
    ∃ v', FZ 7 σ.blk (SA.bk a ++ L ++ SA.bk b) (.agg [.i .i64 S.words, .sl a S.L.length, .sl b S.free.length, .i .i64 S.room]) v' ∧ S.at_ v' := by
  obtain ⟨va, f1, m1⟩ := Ow.fz (t := S.tl) (d := 5) (.sl o c d1) S.deep_l
  obtain ⟨vb, f2, m2⟩ := Ow.fz (t := S.tf) (d := 5) (Ow.leaves p (flat_ints _)) S.deep_f
  have h := FZL.cons0 (v := .i .i64 S.words) (FZ.flat rfl) (FZL.cons f1 (FZL.cons f2 (FZL.flat (vs := [.i .i64 S.room]) rfl) (by simp)) fun x hx hm => by
    simp only [List.append_nil] at hm
    exact d2 x hm hx)
  simp only [List.append_nil] at h
  exact ⟨_, FZ.agg h, va, vb, rfl, m1, m2⟩
/-- a state and a number -/
theorem DS.fzt {σ : AH O} {L : List Nat} {v v' : AV} {n : Int} (h : FZ 7 σ.blk L v v') : FZ 8 σ.blk L (.tup [v, .i .i64 n]) (.tup [v', .i .i64 n]) := by
  have := FZL.cons h (FZL.flat (vs := [.i .i64 n]) rfl) (by simp)
  simp only [List.append_nil] at this
  exact FZ.tup this
/-- a frozen one stays as it is -/
theorem DS.fz0 {σ : AH O} {S : DS} {v : AV} (h : S.at_ v) : FZ 7 σ.blk [] v v := by
  obtain ⟨a, b, rfl, ha, hb⟩ := h
  exact FZ.agg (FZL.flat (by simp only [List.all_cons, List.all_nil, ha.flat, hb.flat, Bool.and_true, Bool.true_and]; rfl))
def DS.put (S : DS) (i : Nat) (e : DE) : DS := { S with L := S.L.set i e }
theorem rows_set {S : DS} {i : Nat} {e : DE} (f : DE) (he : S.L[i]? = some e) (j : Nat) (t : TV) (hj : j < 3) (hf : f.row = e.row.set j t) : (S.L.set i f).flatMap DE.row = (S.L.flatMap DE.row).set (i * 3 + j) t := by
  have hi := (List.getElem?_eq_some_iff.1 he).1
  apply List.ext_getElem?
  intro k
  have hk : k = k / 3 * 3 + k % 3 := by omega
  have hm : k % 3 < 3 := by omega
  rw [List.getElem?_set]
  by_cases c : i * 3 + j = k
  · subst c
    rw [if_pos rfl, if_pos (by rw [fmt_len DE.len]; omega), fmt_get DE.len _ _ _ hj, List.getElem?_set, if_pos rfl, if_pos hi]
    simp only [Option.bind_some, hf]
    rw [List.getElem?_set, if_pos rfl, if_pos (by rw [DE.len]; exact hj)]
  · rw [if_neg c, hk, fmt_get DE.len _ _ _ hm, fmt_get DE.len _ _ _ hm, List.getElem?_set]
    by_cases ci : i = k / 3
    · rw [if_pos ci, if_pos hi, ← ci, he]
      simp only [Option.bind_some, hf]
      rw [List.getElem?_set, if_neg (by omega)]
    · rw [if_neg ci]
end Go.Abs.Try
