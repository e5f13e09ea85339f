/-
  Layer 10: an entry is taken, whatever its number; blocks beside a pool. No conditions.
-/
import Derived.Test.YtgmffmgbaelohaaM10c
set_option linter.unusedVariables false
set_option linter.unusedSimpArgs false
set_option linter.constructorNameAsVariable false
set_option linter.unusedSimpArgs false
set_option linter.unusedVariables false
set_option linter.unusedSectionVars false
set_option maxHeartbeats 1000000
namespace Go.Abs.Try
open Go Go.Abs
variable {O : Type}

/-- the entry i, of the generation g, was taken -/
structure Took (S S' : PoolS) (i g : Nat) : Prop where
  id : S'.id = S.id
  words : S'.words = S.words
  now : S'.E[i]? = some ⟨true, g, List.replicate S.words 0⟩
  other : ∀ j, j ≠ i → S'.E[j]? = S.E[j]?
  was : ∀ e, S.E[i]? = some e → e.tk = false ∧ e.gen = g
  new : S.E[i]? = none → g = 0
  len : S.E.length ≤ S'.E.length ∧ S'.E.length ≤ S.E.length + 1
  taken : S'.taken = S.taken + 1
  room : S'.room = S.room ∨ S'.room = S.more
  head : ∀ j r, S.free = (j + 1) :: r → i = j
theorem PoolAt.turn {σ σ' : AH O} {pb mb : Nat} {M : MemS} {S : PoolS} {w : List Int} {X Y L : List Nat} (h : PoolAt σ pb mb M S w X) (hc : Chg L σ σ') (hl : ∀ b ∈ L, b ∈ X ∨ σ.next ≤ b) (hY : ∀ b ∈ Y, b ∈ X ∨ (σ.next ≤ b ∧ b < σ'.next)) : PoolAt σ' pb mb M S w Y := by
  have hlt := h.lt
  refine { h with mi := h.mi.turn hc (fun b hb => (hl b hb).imp (List.mem_cons_of_mem _) fun g => g) fun b hb => ?_, b := (hc.blk pb h.lt fun hm => ?_).trans h.b, nx := fun hm => ?_ }
  · rcases List.mem_cons.1 hb with rfl | hb
    · exact .inl List.mem_cons_self
    · exact (hY b hb).imp (List.mem_cons_of_mem _) fun g => g
  · rcases hl pb hm with g | g
    · exact h.nx g
    · omega
  · rcases hY pb hm with g | g
    · exact h.nx g
    · omega
end Go.Abs.Try
