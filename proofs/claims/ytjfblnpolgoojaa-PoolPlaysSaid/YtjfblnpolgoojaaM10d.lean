/-
  Layer 10: an entry is taken, whatever its number; blocks beside a pool. No conditions.
-/
import Derived.Test.YtjfblnpolgoojaaM10c
set_option linter.unusedVariables false
set_option linter.unusedSimpArgs false
set_option linter.constructorNameAsVariable false
set_option linter.unusedSimpArgs false
set_option linter.unusedVariables false
set_option linter.unusedSectionVars false
set_option maxHeartbeats 1000000
namespace Go.Abs.Try
open Go Go.Abs
variable {O : Type}

/-- the entry i, of the generation g, was taken -/
structure Took (S S' : PoolS) (i g : Nat) : Prop where
  id : S'.id = S.id
  words : S'.words = S.words
  now : S'.E[i]? = some ⟨true, g, List.replicate S.words 0⟩
  other : ∀ j, j ≠ i → S'.E[j]? = S.E[j]?
  was : ∀ e, S.E[i]? = some e → e.tk = false ∧ e.gen = g
  new : S.E[i]? = none → g = 0
  len : S.E.length ≤ S'.E.length ∧ S'.E.length ≤ S.E.length + 1
  taken : S'.taken = S.taken + 1
  room : S'.room = S.room ∨ S'.room = S.more
  head : ∀ j r, S.free = (j + 1) :: r → i = j
theorem PoolAt.turn {σ σ' : AH O} {pb mb : Nat} {M : MemS} {S : PoolS} {w : List Int} {X Y L : List Nat} (h : PoolAt σ pb mb M S w X) (hc : Chg L σ σ') (hl : ∀ b ∈ L, b ∈ X ∨ σ.next ≤ b) (hY : ∀ b ∈ Y, b ∈ X ∨ (σ.next ≤ b ∧ b < σ'.next)) : PoolAt σ' pb mb M S w Y := by
  have hlt := h.lt
  refine { h with mi := h.mi.turn hc (fun b hb => (hl b hb).imp (List.mem_cons_of_mem _) fun g => g) fun b hb => ?_, b := (hc.blk pb h.lt fun hm => ?_).trans h.b, nx := fun hm => ?_ }
  · rcases List.mem_cons.1 hb with rfl | hb
    · exact .inl List.mem_cons_self
    · exact (hY b hb).imp (List.mem_cons_of_mem _) fun g => g
  · rcases hl pb hm with g | g
    · exact h.nx g
    · omega
  · rcases hY pb hm with g | g
    · exact h.nx g
    · omega
theorem ptake_any {σ : AH O} {pb mb : Nat} {M : MemS} {S : PoolS} {w : List Int} {X : List Nat} (h : PoolAt σ pb mb M S w X) (hc : M.calm) (hE : S.E.length < 1048576) (hR : S.more * (S.words + 1) ≤ 4194304) (hm : M.met.r + 100 < 85070591730234615865843651857942052864 ∧ M.met.w + 100 < 85070591730234615865843651857942052864) :
    Ok (pool_Pool__Take [.p (some (.n pb, 0))] σ) fun q => ∃ i g S', q.1 = .tup [.i .i64 (((i : Nat) : Int) + 1), .i .i64 0] ∧ Took S S' i g ∧ ∃ M' w' dr dw, PoolAt q.2 pb mb M' S' w' X ∧ Wrt M M' S.id w' dr dw ∧ 0 ≤ dr ∧ dr ≤ 2 ∧ 1 ≤ dw ∧ dr + dw ≤ 3 + S.words ∧ Keep X σ q.2 := by
  cases hf : S.free with
  | nil =>
    refine (ptake_new h hc hf hE hR hm.2).mono fun q ⟨g1, M', w', g2, g3, g4⟩ => ⟨S.E.length, 0, { S with room := S.more, E := S.E ++ [PE.fresh S.words], taken := S.taken + 1 }, g1, ⟨rfl, rfl, ?_, fun j hj => ?_, fun e he => ?_, fun _ => rfl, ?_, rfl, .inr rfl, fun j r e => by rw [hf] at e; cases e⟩, M', w', 0, 1, g2, g3, by omega, by omega, by omega, by omega, g4⟩
    · show (S.E ++ [PE.fresh S.words])[S.E.length]? = _
      simp [PE.fresh]
    · show (S.E ++ [PE.fresh S.words])[j]? = _
      rcases Nat.lt_or_ge j S.E.length with g | g
      · rw [List.getElem?_append_left g]
      · rw [List.getElem?_eq_none (by simp; omega), List.getElem?_eq_none (by omega)]
    · have := (List.getElem?_eq_some_iff.1 he).1; omega
    · simp
  | cons j r =>
    have hch := h.p.ch
    rw [hf] at hch
    obtain ⟨⟨e, h1, _⟩, _⟩ := hch
    obtain ⟨i, rfl⟩ : ∃ i, j = i + 1 := ⟨j - 1, by omega⟩
    obtain ⟨e, he, htk, g⟩ := ptake_old h hc hf hm
    have hi := (List.getElem?_eq_some_iff.1 he).1
    refine g.mono fun q ⟨g1, M', w', g2, g3, g4⟩ => ⟨i, e.gen, { S with E := S.E.set i ⟨true, e.gen, List.replicate S.words 0⟩, free := r, taken := S.taken + 1 }, g1, ⟨rfl, rfl, ?_, fun j hj => ?_, fun e' he' => ?_, fun hn => ?_, ?_, rfl, .inl rfl, fun j' r' e => by rw [hf] at e; cases e; rfl⟩, M', w', 2, 1 + S.words, g2, g3, by omega, by omega, by omega, by omega, g4⟩
    · show (S.E.set i _)[i]? = _
      rw [List.getElem?_set]; simp [hi]
    · show (S.E.set i _)[j]? = _
      rw [List.getElem?_set, if_neg (fun e => hj e.symm)]
    · rw [he] at he'; cases he'; exact ⟨htk, rfl⟩
    · rw [he] at hn; cases hn
    · simp
end Go.Abs.Try
