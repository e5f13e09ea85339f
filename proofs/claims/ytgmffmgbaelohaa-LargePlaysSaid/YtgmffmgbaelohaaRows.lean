/-
  No cell of these rows narrows 'for every input' (looked for: loops, veiled, ifaces, maps, wideKeys, modest, calm, conditions, laid).
  DERIVED. THE GIVEN ROWS OF THIS SEAT. 6 by the template 'for every input the law returns true; each argument reads behind the call as it read before'; 0 by the template 'total and deterministic' (their statements: YtgmffmgbaelohaaTotals.lean).
  GIVEN WITH THE SEED: the statements are not yours to turn. If you find one false, say at which input.
  Laid BY PROGRAM, IN A SANDBOX (cutbox-rows.mjs): the forced cells as the released guide's own fill.sh prints them over the translation 1f924e0cf15bdd1d… (all of the seat's roots in one cut). By AI agents, Wed Nov 11 2026. No macro, syntax, notation, axiom, sorry.
-/
import Derived.Test.YtgmffmgbaelohaaChecked
import GoSem.Claim
import GoSem.ClaimJoined
import GoSem.ClaimMapViews
import Derived.JoinedTies
import Derived.KernelRfl
namespace Go.Proofs.Ytgmffmgbaelohaa
/- THE CELL 'sum', in the pinned program and in every row, IS THE sha256 OF THE DUMP (.gsa) THAT YtgmffmgbaelohaaProg.lean LOADS. Nothing in Lean hashes anything: it is a label: what it is worth is what the hold of that sum in a sandbox is worth. -/
noncomputable def Try.pinned : Pinned := { name := "ytgmffmgbaelohaa", sum := "1f924e0cf15bdd1dad8d0ac98b7557804ed10ec23e2ea7da58464cdcb96493d2", checked := Try.checked }
namespace Rows
def none {H : Type} : Left H := { results := [], args := [] }

/-- 'haymowlaw18.HandlesPlay': WHATEVER THE INPUT: true; the input reads as it did. -/
def handlesPlaySpec : ChangeSpec := { name := "handlesPlay", fn := fun _ => fun
  | [d] => { results := [.lit (.bool true)], args := [d] }
  | _ => none }
def handlesPlayRow : OpenClaim := { program := "ytgmffmgbaelohaa", sum := "1f924e0cf15bdd1dad8d0ac98b7557804ed10ec23e2ea7da58464cdcb96493d2", func := "haymow/haymowlaw18.HandlesPlay", spec := "handlesPlay", inPlace := ["math/bits.Add64", "math/bits.Sub64"], unfollowed := true, recurses := true, apart := false }
def HandlesPlaySaid : Prop := handlesPlayRow.holds Try.pinned (OpenSpec.ofChange handlesPlaySpec)

/-- ITS FALSE NEIGHBOUR: 'it returns false'. Refute it at one input. -/
def handlesPlayWrong : ChangeSpec := { name := "handlesPlay", fn := fun _ => fun
  | [d] => { results := [.lit (.bool false)], args := [d] }
  | _ => none }
def HandlesPlayWrongFalsely : Prop := handlesPlayRow.holds Try.pinned (OpenSpec.ofChange handlesPlayWrong)

/-- 'haymowlaw15.LargeGreys': WHATEVER THE INPUT: true; the input reads as it did. -/
def largeGreysSpec : ChangeSpec := { name := "largeGreys", fn := fun _ => fun
  | [d1, d2, d3] => { results := [.lit (.bool true)], args := [d1, d2, d3] }
  | _ => none }
def largeGreysRow : OpenClaim := { program := "ytgmffmgbaelohaa", sum := "1f924e0cf15bdd1dad8d0ac98b7557804ed10ec23e2ea7da58464cdcb96493d2", func := "haymow/haymowlaw15.LargeGreys", spec := "largeGreys", inPlace := ["math/bits.Add64"], unfollowed := true, recurses := true, apart := false }
def LargeGreysSaid : Prop := largeGreysRow.holds Try.pinned (OpenSpec.ofChange largeGreysSpec)

/-- ITS FALSE NEIGHBOUR: 'it returns false'. Refute it at one input. -/
def largeGreysWrong : ChangeSpec := { name := "largeGreys", fn := fun _ => fun
  | [d1, d2, d3] => { results := [.lit (.bool false)], args := [d1, d2, d3] }
  | _ => none }
def LargeGreysWrongFalsely : Prop := largeGreysRow.holds Try.pinned (OpenSpec.ofChange largeGreysWrong)

/-- 'haymowlaw15.LargeSweeps': WHATEVER THE INPUT: true; the input reads as it did. -/
def largeSweepsSpec : ChangeSpec := { name := "largeSweeps", fn := fun _ => fun
  | [d1, d2, d3] => { results := [.lit (.bool true)], args := [d1, d2, d3] }
  | _ => none }
def largeSweepsRow : OpenClaim := { program := "ytgmffmgbaelohaa", sum := "1f924e0cf15bdd1dad8d0ac98b7557804ed10ec23e2ea7da58464cdcb96493d2", func := "haymow/haymowlaw15.LargeSweeps", spec := "largeSweeps", inPlace := ["math/bits.Add64"], unfollowed := true, recurses := true, apart := false }
def LargeSweepsSaid : Prop := largeSweepsRow.holds Try.pinned (OpenSpec.ofChange largeSweepsSpec)

/-- ITS FALSE NEIGHBOUR: 'it returns false'. Refute it at one input. -/
def largeSweepsWrong : ChangeSpec := { name := "largeSweeps", fn := fun _ => fun
  | [d1, d2, d3] => { results := [.lit (.bool false)], args := [d1, d2, d3] }
  | _ => none }
def LargeSweepsWrongFalsely : Prop := largeSweepsRow.holds Try.pinned (OpenSpec.ofChange largeSweepsWrong)

/-- 'haymowlaw15.LargePlays': WHATEVER THE INPUT: true; the input reads as it did. -/
def largePlaysSpec : ChangeSpec := { name := "largePlays", fn := fun _ => fun
  | [d] => { results := [.lit (.bool true)], args := [d] }
  | _ => none }
def largePlaysRow : OpenClaim := { program := "ytgmffmgbaelohaa", sum := "1f924e0cf15bdd1dad8d0ac98b7557804ed10ec23e2ea7da58464cdcb96493d2", func := "haymow/haymowlaw15.LargePlays", spec := "largePlays", inPlace := ["math/bits.Add64", "math/bits.Sub64"], unfollowed := true, recurses := true, apart := false }
def LargePlaysSaid : Prop := largePlaysRow.holds Try.pinned (OpenSpec.ofChange largePlaysSpec)

/-- ITS FALSE NEIGHBOUR: 'it returns false'. Refute it at one input. -/
def largePlaysWrong : ChangeSpec := { name := "largePlays", fn := fun _ => fun
  | [d] => { results := [.lit (.bool false)], args := [d] }
  | _ => none }
def LargePlaysWrongFalsely : Prop := largePlaysRow.holds Try.pinned (OpenSpec.ofChange largePlaysWrong)

/-- 'haymowlaw16.StoreApart': WHATEVER THE INPUT: true; the input reads as it did. -/
def storeApartSpec : ChangeSpec := { name := "storeApart", fn := fun _ => fun
  | [d1, d2, d3] => { results := [.lit (.bool true)], args := [d1, d2, d3] }
  | _ => none }
def storeApartRow : OpenClaim := { program := "ytgmffmgbaelohaa", sum := "1f924e0cf15bdd1dad8d0ac98b7557804ed10ec23e2ea7da58464cdcb96493d2", func := "haymow/haymowlaw16.StoreApart", spec := "storeApart", inPlace := ["math/bits.Add64"], unfollowed := true, recurses := true, apart := false }
def StoreApartSaid : Prop := storeApartRow.holds Try.pinned (OpenSpec.ofChange storeApartSpec)

/-- ITS FALSE NEIGHBOUR: 'it returns false'. Refute it at one input. -/
def storeApartWrong : ChangeSpec := { name := "storeApart", fn := fun _ => fun
  | [d1, d2, d3] => { results := [.lit (.bool false)], args := [d1, d2, d3] }
  | _ => none }
def StoreApartWrongFalsely : Prop := storeApartRow.holds Try.pinned (OpenSpec.ofChange storeApartWrong)

/-- 'haymowlaw16.StoreSteps': WHATEVER THE INPUT: true; the input reads as it did. -/
def storeStepsSpec : ChangeSpec := { name := "storeSteps", fn := fun _ => fun
  | [d1, d2, d3] => { results := [.lit (.bool true)], args := [d1, d2, d3] }
  | _ => none }
def storeStepsRow : OpenClaim := { program := "ytgmffmgbaelohaa", sum := "1f924e0cf15bdd1dad8d0ac98b7557804ed10ec23e2ea7da58464cdcb96493d2", func := "haymow/haymowlaw16.StoreSteps", spec := "storeSteps", inPlace := ["math/bits.Add64"], unfollowed := true, recurses := true, apart := false }
def StoreStepsSaid : Prop := storeStepsRow.holds Try.pinned (OpenSpec.ofChange storeStepsSpec)

/-- ITS FALSE NEIGHBOUR: 'it returns false'. Refute it at one input. -/
def storeStepsWrong : ChangeSpec := { name := "storeSteps", fn := fun _ => fun
  | [d1, d2, d3] => { results := [.lit (.bool false)], args := [d1, d2, d3] }
  | _ => none }
def StoreStepsWrongFalsely : Prop := storeStepsRow.holds Try.pinned (OpenSpec.ofChange storeStepsWrong)

/- THE SECOND FORM. 'bulk': how many values and letters a reading holds, each counted each time it is reached (what is shared counts as often as it is met; a slice's spare places count too). A statement '..UptoSaid' is the law's where the arguments, and the package variables that the reading takes, are together of bulk at most 1048576: NARROWER than '..Said'. Prove '..Said' where nothing that the law and all that it calls make is longer than what came in: it says more and counts as full. Else prove '..UptoSaid'. A law counts once. -/
mutual
def uptoBulk {H : Type} : DataW H → Nat
  | .lit (.string bytes) => bytes.length + 1
  | .lit _ => 1
  | .nil => 1
  | .ptr d => uptoBulk d + 1
  | .slice elems spare => uptoBulkAll elems + uptoBulkAll spare + 1
  | .agg parts => uptoBulkAll parts + 1
  | .iface _ d => uptoBulk d + 1
  | .map entries => uptoBulkEntries entries + 1
  | .held _ => 1
def uptoBulkAll {H : Type} : List (DataW H) → Nat
  | [] => 0
  | d :: r => uptoBulk d + uptoBulkAll r
def uptoBulkEntries {H : Type} : List (Lit × DataW H) → Nat
  | [] => 0
  | x :: r => uptoBulkEntry x + uptoBulkEntries r
def uptoBulkEntry {H : Type} : Lit × DataW H → Nat
  | (.string bytes, d) => bytes.length + uptoBulk d + 1
  | (_, d) => uptoBulk d + 1
 end
def uptoSmall : (H : Type) → List (DataW H) → Bool := fun _ ds => decide (uptoBulkAll ds ≤ 1048576)
def OpenSpec.upto (s : _root_.Go.ChangeSpec) : _root_.Go.OpenSpec := { _root_.Go.OpenSpec.ofChange s with cond := some uptoSmall }

/-- 'haymowlaw18.HandlesPlay', WHERE WHAT IT READS IS OF BULK AT MOST 1048576: true; the input reads as it did. -/
def handlesPlayUptoRow : OpenClaim := { program := "ytgmffmgbaelohaa", sum := "1f924e0cf15bdd1dad8d0ac98b7557804ed10ec23e2ea7da58464cdcb96493d2", func := "haymow/haymowlaw18.HandlesPlay", spec := "handlesPlay", inPlace := ["math/bits.Add64", "math/bits.Sub64"], unfollowed := true, recurses := true, apart := false, narrowed := true }
def HandlesPlayUptoSaid : Prop := handlesPlayUptoRow.holds Try.pinned (OpenSpec.upto handlesPlaySpec)

/-- 'haymowlaw15.LargeGreys', WHERE WHAT IT READS IS OF BULK AT MOST 1048576: true; the input reads as it did. -/
def largeGreysUptoRow : OpenClaim := { program := "ytgmffmgbaelohaa", sum := "1f924e0cf15bdd1dad8d0ac98b7557804ed10ec23e2ea7da58464cdcb96493d2", func := "haymow/haymowlaw15.LargeGreys", spec := "largeGreys", inPlace := ["math/bits.Add64"], unfollowed := true, recurses := true, apart := false, narrowed := true }
def LargeGreysUptoSaid : Prop := largeGreysUptoRow.holds Try.pinned (OpenSpec.upto largeGreysSpec)

/-- 'haymowlaw15.LargeSweeps', WHERE WHAT IT READS IS OF BULK AT MOST 1048576: true; the input reads as it did. -/
def largeSweepsUptoRow : OpenClaim := { program := "ytgmffmgbaelohaa", sum := "1f924e0cf15bdd1dad8d0ac98b7557804ed10ec23e2ea7da58464cdcb96493d2", func := "haymow/haymowlaw15.LargeSweeps", spec := "largeSweeps", inPlace := ["math/bits.Add64"], unfollowed := true, recurses := true, apart := false, narrowed := true }
def LargeSweepsUptoSaid : Prop := largeSweepsUptoRow.holds Try.pinned (OpenSpec.upto largeSweepsSpec)

/-- 'haymowlaw15.LargePlays', WHERE WHAT IT READS IS OF BULK AT MOST 1048576: true; the input reads as it did. -/
def largePlaysUptoRow : OpenClaim := { program := "ytgmffmgbaelohaa", sum := "1f924e0cf15bdd1dad8d0ac98b7557804ed10ec23e2ea7da58464cdcb96493d2", func := "haymow/haymowlaw15.LargePlays", spec := "largePlays", inPlace := ["math/bits.Add64", "math/bits.Sub64"], unfollowed := true, recurses := true, apart := false, narrowed := true }
def LargePlaysUptoSaid : Prop := largePlaysUptoRow.holds Try.pinned (OpenSpec.upto largePlaysSpec)

/-- 'haymowlaw16.StoreApart', WHERE WHAT IT READS IS OF BULK AT MOST 1048576: true; the input reads as it did. -/
def storeApartUptoRow : OpenClaim := { program := "ytgmffmgbaelohaa", sum := "1f924e0cf15bdd1dad8d0ac98b7557804ed10ec23e2ea7da58464cdcb96493d2", func := "haymow/haymowlaw16.StoreApart", spec := "storeApart", inPlace := ["math/bits.Add64"], unfollowed := true, recurses := true, apart := false, narrowed := true }
def StoreApartUptoSaid : Prop := storeApartUptoRow.holds Try.pinned (OpenSpec.upto storeApartSpec)

/-- 'haymowlaw16.StoreSteps', WHERE WHAT IT READS IS OF BULK AT MOST 1048576: true; the input reads as it did. -/
def storeStepsUptoRow : OpenClaim := { program := "ytgmffmgbaelohaa", sum := "1f924e0cf15bdd1dad8d0ac98b7557804ed10ec23e2ea7da58464cdcb96493d2", func := "haymow/haymowlaw16.StoreSteps", spec := "storeSteps", inPlace := ["math/bits.Add64"], unfollowed := true, recurses := true, apart := false, narrowed := true }
def StoreStepsUptoSaid : Prop := storeStepsUptoRow.holds Try.pinned (OpenSpec.upto storeStepsSpec)

end Rows
end Go.Proofs.Ytgmffmgbaelohaa
