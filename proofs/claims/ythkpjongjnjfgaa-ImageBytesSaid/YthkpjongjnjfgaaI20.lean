/-
  Numbers at the head of words: the document's walk. No conditions.
-/
import Derived.Test.YthkpjongjnjfgaaI10
import Derived.Test.YthkpjongjnjfgaaI4
import Derived.Test.YthkpjongjnjfgaaI5
import Derived.Test.YthkpjongjnjfgaaN1
set_option linter.unusedVariables false
set_option linter.unusedSimpArgs false
set_option linter.constructorNameAsVariable false
set_option linter.unusedSimpArgs false
set_option linter.unusedVariables false
set_option maxHeartbeats 2000000
namespace Go.Abs.Try
open Go Go.Abs
variable {O : Type}
theorem imm_flat {es n : Nat} {a : SA} {cs : List AV} (h : Imm es a n cs) (m : Nat) : (AV.sl a m).flat = true := by
 have := h.bk
 match a, this with
 | .nil, _ => rfl
 | .z, _ => rfl
 | .loc (.f _) _ _, _ => rfl
 | .loc (.n _) _ _, h => simp [SA.bk] at h
def TakeV (o : Option (List Int × List Int)) (v : AV) : Prop := match o with
 | some (P, r) => ∃ a1 a2, v = .tup [.sl a1 P.length, .sl a2 r.length, .b true] /\ Ints .i64 a1 P /\ Ints .u64 a2 r
 | none => v = .tup [.sl .nil 0, .sl .nil 0, .b false]
theorem TakeV.fz {o : Option (List Int × List Int)} {v : AV} (h : TakeV o v) {d : Nat} {H : Nat -> Option (Blk O)} : FZ (d + 2) H [] v v := by
 unfold TakeV at h
 match o, h with
 | none, h =>
  rw [h]; exact FZ.tup (FZL.flat rfl)
 | some (P, r), ⟨a1, a2, h, i1, i2⟩ =>
  rw [h]
  refine FZ.tup (FZL.flat ?_)
  show ((AV.sl a1 _).flat && ((AV.sl a2 _).flat && ((AV.b true).flat && true))) = true
  rw [imm_flat i1.imm, imm_flat i2.imm]; rfl
end Go.Abs.Try
set_option maxHeartbeats 4000000
namespace Go.Abs.Try
open Go Go.Abs
variable {O : Type}
end Go.Abs.Try
namespace Go.Abs.Try
open Go Go.Abs
variable {O : Type}
end Go.Abs.Try
namespace Go.Abs.Try
open Go Go.Abs
variable {O : Type}
end Go.Abs.Try
