/-
  No cell of these rows narrows 'for every input' (looked for: loops, veiled, ifaces, maps, wideKeys, modest, calm, conditions, laid).
  DERIVED. THE GIVEN ROWS OF THIS SEAT. 7 by the template 'for every input the law returns true; each argument reads behind the call as it read before'; 0 by the template 'total and deterministic' (their statements: YteklninbijohcaaTotals.lean).
  GIVEN WITH THE SEED: the statements are not yours to turn. If you find one false, say at which input.
  Laid BY PROGRAM, IN A SANDBOX (cutbox-rows.mjs): the forced cells as the released guide's own fill.sh prints them over the translation 3c41f6f6f24edb00… (all of the seat's roots in one cut). By AI agents, Wed Nov 11 2026. No macro, syntax, notation, axiom, sorry.
-/
import Derived.Test.YteklninbijohcaaChecked
import GoSem.Claim
import GoSem.ClaimJoined
import GoSem.ClaimMapViews
import Derived.JoinedTies
import Derived.KernelRfl
namespace Go.Proofs.Yteklninbijohcaa
/- THE CELL 'sum', in the pinned program and in every row, IS THE sha256 OF THE DUMP (.gsa) THAT YteklninbijohcaaProg.lean LOADS. Nothing in Lean hashes anything: it is a label: what it is worth is what the hold of that sum in a sandbox is worth. -/
noncomputable def Try.pinned : Pinned := { name := "yteklninbijohcaa", sum := "3c41f6f6f24edb00be47270fd7a9e2ab13280215d3eb93b8be00307b3158f6e8", checked := Try.checked }
namespace Rows
def none {H : Type} : Left H := { results := [], args := [] }

/-- 'haymowlaw44.LoadChurns': WHATEVER THE INPUT: true; the input reads as it did. -/
def loadChurnsSpec : ChangeSpec := { name := "loadChurns", fn := fun _ => fun
  | [d1, d2, d3] => { results := [.lit (.bool true)], args := [d1, d2, d3] }
  | _ => none }
def loadChurnsRow : OpenClaim := { program := "yteklninbijohcaa", sum := "3c41f6f6f24edb00be47270fd7a9e2ab13280215d3eb93b8be00307b3158f6e8", func := "haymow/haymowlaw44.LoadChurns", spec := "loadChurns", apart := false }
def LoadChurnsSaid : Prop := loadChurnsRow.holds Try.pinned (OpenSpec.ofChange loadChurnsSpec)

/-- ITS FALSE NEIGHBOUR: 'it returns false'. Refute it at one input. -/
def loadChurnsWrong : ChangeSpec := { name := "loadChurns", fn := fun _ => fun
  | [d1, d2, d3] => { results := [.lit (.bool false)], args := [d1, d2, d3] }
  | _ => none }
def LoadChurnsWrongFalsely : Prop := loadChurnsRow.holds Try.pinned (OpenSpec.ofChange loadChurnsWrong)

/-- 'haymowlaw44.LoadScripts': WHATEVER THE INPUT: true; the input reads as it did. -/
def loadScriptsSpec : ChangeSpec := { name := "loadScripts", fn := fun _ => fun
  | [d1, d2, d3] => { results := [.lit (.bool true)], args := [d1, d2, d3] }
  | _ => none }
def loadScriptsRow : OpenClaim := { program := "yteklninbijohcaa", sum := "3c41f6f6f24edb00be47270fd7a9e2ab13280215d3eb93b8be00307b3158f6e8", func := "haymow/haymowlaw44.LoadScripts", spec := "loadScripts", recurses := true, apart := false }
def LoadScriptsSaid : Prop := loadScriptsRow.holds Try.pinned (OpenSpec.ofChange loadScriptsSpec)

/-- ITS FALSE NEIGHBOUR: 'it returns false'. Refute it at one input. -/
def loadScriptsWrong : ChangeSpec := { name := "loadScripts", fn := fun _ => fun
  | [d1, d2, d3] => { results := [.lit (.bool false)], args := [d1, d2, d3] }
  | _ => none }
def LoadScriptsWrongFalsely : Prop := loadScriptsRow.holds Try.pinned (OpenSpec.ofChange loadScriptsWrong)

/-- 'haymowlaw47.DiffBack': WHATEVER THE INPUT: true; the input reads as it did. -/
def diffBackSpec : ChangeSpec := { name := "diffBack", fn := fun _ => fun
  | [d1, d2] => { results := [.lit (.bool true)], args := [d1, d2] }
  | _ => none }
def diffBackRow : OpenClaim := { program := "yteklninbijohcaa", sum := "3c41f6f6f24edb00be47270fd7a9e2ab13280215d3eb93b8be00307b3158f6e8", func := "haymow/haymowlaw47.DiffBack", spec := "diffBack", unfollowed := true, recurses := true, apart := false }
def DiffBackSaid : Prop := diffBackRow.holds Try.pinned (OpenSpec.ofChange diffBackSpec)

/-- ITS FALSE NEIGHBOUR: 'it returns false'. Refute it at one input. -/
def diffBackWrong : ChangeSpec := { name := "diffBack", fn := fun _ => fun
  | [d1, d2] => { results := [.lit (.bool false)], args := [d1, d2] }
  | _ => none }
def DiffBackWrongFalsely : Prop := diffBackRow.holds Try.pinned (OpenSpec.ofChange diffBackWrong)

/-- 'haymowlaw41.ImageReads': WHATEVER THE INPUT: true; the input reads as it did. -/
def imageReadsSpec : ChangeSpec := { name := "imageReads", fn := fun _ => fun
  | [d] => { results := [.lit (.bool true)], args := [d] }
  | _ => none }
def imageReadsRow : OpenClaim := { program := "yteklninbijohcaa", sum := "3c41f6f6f24edb00be47270fd7a9e2ab13280215d3eb93b8be00307b3158f6e8", func := "haymow/haymowlaw41.ImageReads", spec := "imageReads", unfollowed := true, recurses := true, apart := false }
def ImageReadsSaid : Prop := imageReadsRow.holds Try.pinned (OpenSpec.ofChange imageReadsSpec)

/-- ITS FALSE NEIGHBOUR: 'it returns false'. Refute it at one input. -/
def imageReadsWrong : ChangeSpec := { name := "imageReads", fn := fun _ => fun
  | [d] => { results := [.lit (.bool false)], args := [d] }
  | _ => none }
def ImageReadsWrongFalsely : Prop := imageReadsRow.holds Try.pinned (OpenSpec.ofChange imageReadsWrong)

/-- 'haymowlaw41.ImageBytes': WHATEVER THE INPUT: true; the input reads as it did. -/
def imageBytesSpec : ChangeSpec := { name := "imageBytes", fn := fun _ => fun
  | [d1, d2] => { results := [.lit (.bool true)], args := [d1, d2] }
  | _ => none }
def imageBytesRow : OpenClaim := { program := "yteklninbijohcaa", sum := "3c41f6f6f24edb00be47270fd7a9e2ab13280215d3eb93b8be00307b3158f6e8", func := "haymow/haymowlaw41.ImageBytes", spec := "imageBytes", unfollowed := true, recurses := true, apart := false }
def ImageBytesSaid : Prop := imageBytesRow.holds Try.pinned (OpenSpec.ofChange imageBytesSpec)

/-- ITS FALSE NEIGHBOUR: 'it returns false'. Refute it at one input. -/
def imageBytesWrong : ChangeSpec := { name := "imageBytes", fn := fun _ => fun
  | [d1, d2] => { results := [.lit (.bool false)], args := [d1, d2] }
  | _ => none }
def ImageBytesWrongFalsely : Prop := imageBytesRow.holds Try.pinned (OpenSpec.ofChange imageBytesWrong)

/-- 'haymowlaw47.DiffTells': WHATEVER THE INPUT: true; the input reads as it did. -/
def diffTellsSpec : ChangeSpec := { name := "diffTells", fn := fun _ => fun
  | [d1, d2] => { results := [.lit (.bool true)], args := [d1, d2] }
  | _ => none }
def diffTellsRow : OpenClaim := { program := "yteklninbijohcaa", sum := "3c41f6f6f24edb00be47270fd7a9e2ab13280215d3eb93b8be00307b3158f6e8", func := "haymow/haymowlaw47.DiffTells", spec := "diffTells", recurses := true, apart := false }
def DiffTellsSaid : Prop := diffTellsRow.holds Try.pinned (OpenSpec.ofChange diffTellsSpec)

/-- ITS FALSE NEIGHBOUR: 'it returns false'. Refute it at one input. -/
def diffTellsWrong : ChangeSpec := { name := "diffTells", fn := fun _ => fun
  | [d1, d2] => { results := [.lit (.bool false)], args := [d1, d2] }
  | _ => none }
def DiffTellsWrongFalsely : Prop := diffTellsRow.holds Try.pinned (OpenSpec.ofChange diffTellsWrong)

/-- 'haymowlaw47.DiffApplies': WHATEVER THE INPUT: true; the input reads as it did. -/
def diffAppliesSpec : ChangeSpec := { name := "diffApplies", fn := fun _ => fun
  | [d1, d2] => { results := [.lit (.bool true)], args := [d1, d2] }
  | _ => none }
def diffAppliesRow : OpenClaim := { program := "yteklninbijohcaa", sum := "3c41f6f6f24edb00be47270fd7a9e2ab13280215d3eb93b8be00307b3158f6e8", func := "haymow/haymowlaw47.DiffApplies", spec := "diffApplies", recurses := true, apart := false }
def DiffAppliesSaid : Prop := diffAppliesRow.holds Try.pinned (OpenSpec.ofChange diffAppliesSpec)

/-- ITS FALSE NEIGHBOUR: 'it returns false'. Refute it at one input. -/
def diffAppliesWrong : ChangeSpec := { name := "diffApplies", fn := fun _ => fun
  | [d1, d2] => { results := [.lit (.bool false)], args := [d1, d2] }
  | _ => none }
def DiffAppliesWrongFalsely : Prop := diffAppliesRow.holds Try.pinned (OpenSpec.ofChange diffAppliesWrong)

/- THE SECOND FORM. 'bulk': how many values and letters a reading holds, each counted each time it is reached (what is shared counts as often as it is met; a slice's spare places count too). A statement '..UptoSaid' is the law's where the arguments, and the package variables that the reading takes, are together of bulk at most 1048576: NARROWER than '..Said'. Prove '..Said' where nothing that the law and all that it calls make is longer than what came in: it says more and counts as full. Else prove '..UptoSaid'. A law counts once. -/
mutual
def uptoBulk {H : Type} : DataW H → Nat
  | .lit (.string bytes) => bytes.length + 1
  | .lit _ => 1
  | .nil => 1
  | .ptr d => uptoBulk d + 1
  | .slice elems spare => uptoBulkAll elems + uptoBulkAll spare + 1
  | .agg parts => uptoBulkAll parts + 1
  | .iface _ d => uptoBulk d + 1
  | .map entries => uptoBulkEntries entries + 1
  | .held _ => 1
def uptoBulkAll {H : Type} : List (DataW H) → Nat
  | [] => 0
  | d :: r => uptoBulk d + uptoBulkAll r
def uptoBulkEntries {H : Type} : List (Lit × DataW H) → Nat
  | [] => 0
  | x :: r => uptoBulkEntry x + uptoBulkEntries r
def uptoBulkEntry {H : Type} : Lit × DataW H → Nat
  | (.string bytes, d) => bytes.length + uptoBulk d + 1
  | (_, d) => uptoBulk d + 1
 end
def uptoSmall : (H : Type) → List (DataW H) → Bool := fun _ ds => decide (uptoBulkAll ds ≤ 1048576)
def OpenSpec.upto (s : _root_.Go.ChangeSpec) : _root_.Go.OpenSpec := { _root_.Go.OpenSpec.ofChange s with cond := some uptoSmall }

/-- 'haymowlaw44.LoadChurns', WHERE WHAT IT READS IS OF BULK AT MOST 1048576: true; the input reads as it did. -/
def loadChurnsUptoRow : OpenClaim := { program := "yteklninbijohcaa", sum := "3c41f6f6f24edb00be47270fd7a9e2ab13280215d3eb93b8be00307b3158f6e8", func := "haymow/haymowlaw44.LoadChurns", spec := "loadChurns", apart := false, narrowed := true }
def LoadChurnsUptoSaid : Prop := loadChurnsUptoRow.holds Try.pinned (OpenSpec.upto loadChurnsSpec)

/-- 'haymowlaw44.LoadScripts', WHERE WHAT IT READS IS OF BULK AT MOST 1048576: true; the input reads as it did. -/
def loadScriptsUptoRow : OpenClaim := { program := "yteklninbijohcaa", sum := "3c41f6f6f24edb00be47270fd7a9e2ab13280215d3eb93b8be00307b3158f6e8", func := "haymow/haymowlaw44.LoadScripts", spec := "loadScripts", recurses := true, apart := false, narrowed := true }
def LoadScriptsUptoSaid : Prop := loadScriptsUptoRow.holds Try.pinned (OpenSpec.upto loadScriptsSpec)

/-- 'haymowlaw47.DiffBack', WHERE WHAT IT READS IS OF BULK AT MOST 1048576: true; the input reads as it did. -/
def diffBackUptoRow : OpenClaim := { program := "yteklninbijohcaa", sum := "3c41f6f6f24edb00be47270fd7a9e2ab13280215d3eb93b8be00307b3158f6e8", func := "haymow/haymowlaw47.DiffBack", spec := "diffBack", unfollowed := true, recurses := true, apart := false, narrowed := true }
def DiffBackUptoSaid : Prop := diffBackUptoRow.holds Try.pinned (OpenSpec.upto diffBackSpec)

/-- 'haymowlaw41.ImageReads', WHERE WHAT IT READS IS OF BULK AT MOST 1048576: true; the input reads as it did. -/
def imageReadsUptoRow : OpenClaim := { program := "yteklninbijohcaa", sum := "3c41f6f6f24edb00be47270fd7a9e2ab13280215d3eb93b8be00307b3158f6e8", func := "haymow/haymowlaw41.ImageReads", spec := "imageReads", unfollowed := true, recurses := true, apart := false, narrowed := true }
def ImageReadsUptoSaid : Prop := imageReadsUptoRow.holds Try.pinned (OpenSpec.upto imageReadsSpec)

/-- 'haymowlaw41.ImageBytes', WHERE WHAT IT READS IS OF BULK AT MOST 1048576: true; the input reads as it did. -/
def imageBytesUptoRow : OpenClaim := { program := "yteklninbijohcaa", sum := "3c41f6f6f24edb00be47270fd7a9e2ab13280215d3eb93b8be00307b3158f6e8", func := "haymow/haymowlaw41.ImageBytes", spec := "imageBytes", unfollowed := true, recurses := true, apart := false, narrowed := true }
def ImageBytesUptoSaid : Prop := imageBytesUptoRow.holds Try.pinned (OpenSpec.upto imageBytesSpec)

/-- 'haymowlaw47.DiffTells', WHERE WHAT IT READS IS OF BULK AT MOST 1048576: true; the input reads as it did. -/
def diffTellsUptoRow : OpenClaim := { program := "yteklninbijohcaa", sum := "3c41f6f6f24edb00be47270fd7a9e2ab13280215d3eb93b8be00307b3158f6e8", func := "haymow/haymowlaw47.DiffTells", spec := "diffTells", recurses := true, apart := false, narrowed := true }
def DiffTellsUptoSaid : Prop := diffTellsUptoRow.holds Try.pinned (OpenSpec.upto diffTellsSpec)

/-- 'haymowlaw47.DiffApplies', WHERE WHAT IT READS IS OF BULK AT MOST 1048576: true; the input reads as it did. -/
def diffAppliesUptoRow : OpenClaim := { program := "yteklninbijohcaa", sum := "3c41f6f6f24edb00be47270fd7a9e2ab13280215d3eb93b8be00307b3158f6e8", func := "haymow/haymowlaw47.DiffApplies", spec := "diffApplies", recurses := true, apart := false, narrowed := true }
def DiffAppliesUptoSaid : Prop := diffAppliesUptoRow.holds Try.pinned (OpenSpec.upto diffAppliesSpec)

end Rows
end Go.Proofs.Yteklninbijohcaa
