/-
  No cell of these rows narrows 'for every input' (looked for: loops, veiled, ifaces, maps, wideKeys, modest, calm, conditions, laid).
  DERIVED. THE GIVEN ROWS OF THIS SEAT. 6 by the template 'for every input the law returns true; each argument reads behind the call as it read before'; 0 by the template 'total and deterministic' (their statements: YthkpjongjnjfgaaTotals.lean).
  GIVEN WITH THE SEED: the statements are not yours to turn. If you find one false, say at which input.
  Laid BY PROGRAM, IN A SANDBOX (cutbox-rows.mjs): the forced cells as the released guide's own fill.sh prints them over the translation f88f3d35732eede7… (all of the seat's roots in one cut). By AI agents, Wed Nov 11 2026. No macro, syntax, notation, axiom, sorry.
-/
import Derived.Test.YthkpjongjnjfgaaChecked
import GoSem.Claim
import GoSem.ClaimJoined
import GoSem.ClaimMapViews
import Derived.JoinedTies
import Derived.KernelRfl
namespace Go.Proofs.Ythkpjongjnjfgaa
/- THE CELL 'sum', in the pinned program and in every row, IS THE sha256 OF THE DUMP (.gsa) THAT YthkpjongjnjfgaaProg.lean LOADS. Nothing in Lean hashes anything: it is a label: what it is worth is what the hold of that sum in a sandbox is worth. -/
noncomputable def Try.pinned : Pinned := { name := "ythkpjongjnjfgaa", sum := "f88f3d35732eede7475f185cc2bc1cdd8d510e6f538613aeacdad9377ef35849", checked := Try.checked }
namespace Rows
def none {H : Type} : Left H := { results := [], args := [] }

/-- 'haymowlaw41.ImageReads': WHATEVER THE INPUT: true; the input reads as it did. -/
def imageReadsSpec : ChangeSpec := { name := "imageReads", fn := fun _ => fun
  | [d] => { results := [.lit (.bool true)], args := [d] }
  | _ => none }
def imageReadsRow : OpenClaim := { program := "ythkpjongjnjfgaa", sum := "f88f3d35732eede7475f185cc2bc1cdd8d510e6f538613aeacdad9377ef35849", func := "haymow/haymowlaw41.ImageReads", spec := "imageReads", unfollowed := true, recurses := true, apart := false }
def ImageReadsSaid : Prop := imageReadsRow.holds Try.pinned (OpenSpec.ofChange imageReadsSpec)

/-- ITS FALSE NEIGHBOUR: 'it returns false'. Refute it at one input. -/
def imageReadsWrong : ChangeSpec := { name := "imageReads", fn := fun _ => fun
  | [d] => { results := [.lit (.bool false)], args := [d] }
  | _ => none }
def ImageReadsWrongFalsely : Prop := imageReadsRow.holds Try.pinned (OpenSpec.ofChange imageReadsWrong)

/-- 'haymowlaw41.ImageBytes': WHATEVER THE INPUT: true; the input reads as it did. -/
def imageBytesSpec : ChangeSpec := { name := "imageBytes", fn := fun _ => fun
  | [d1, d2] => { results := [.lit (.bool true)], args := [d1, d2] }
  | _ => none }
def imageBytesRow : OpenClaim := { program := "ythkpjongjnjfgaa", sum := "f88f3d35732eede7475f185cc2bc1cdd8d510e6f538613aeacdad9377ef35849", func := "haymow/haymowlaw41.ImageBytes", spec := "imageBytes", unfollowed := true, recurses := true, apart := false }
def ImageBytesSaid : Prop := imageBytesRow.holds Try.pinned (OpenSpec.ofChange imageBytesSpec)

/-- ITS FALSE NEIGHBOUR: 'it returns false'. Refute it at one input. -/
def imageBytesWrong : ChangeSpec := { name := "imageBytes", fn := fun _ => fun
  | [d1, d2] => { results := [.lit (.bool false)], args := [d1, d2] }
  | _ => none }
def ImageBytesWrongFalsely : Prop := imageBytesRow.holds Try.pinned (OpenSpec.ofChange imageBytesWrong)

/-- 'haymowlaw36.GraphLinks': WHATEVER THE INPUT: true; the input reads as it did. -/
def graphLinksSpec : ChangeSpec := { name := "graphLinks", fn := fun _ => fun
  | [d] => { results := [.lit (.bool true)], args := [d] }
  | _ => none }
def graphLinksRow : OpenClaim := { program := "ythkpjongjnjfgaa", sum := "f88f3d35732eede7475f185cc2bc1cdd8d510e6f538613aeacdad9377ef35849", func := "haymow/haymowlaw36.GraphLinks", spec := "graphLinks", unfollowed := true, recurses := true, apart := false }
def GraphLinksSaid : Prop := graphLinksRow.holds Try.pinned (OpenSpec.ofChange graphLinksSpec)

/-- ITS FALSE NEIGHBOUR: 'it returns false'. Refute it at one input. -/
def graphLinksWrong : ChangeSpec := { name := "graphLinks", fn := fun _ => fun
  | [d] => { results := [.lit (.bool false)], args := [d] }
  | _ => none }
def GraphLinksWrongFalsely : Prop := graphLinksRow.holds Try.pinned (OpenSpec.ofChange graphLinksWrong)

/-- 'haymowlaw36.GraphPlays': WHATEVER THE INPUT: true; the input reads as it did. -/
def graphPlaysSpec : ChangeSpec := { name := "graphPlays", fn := fun _ => fun
  | [d] => { results := [.lit (.bool true)], args := [d] }
  | _ => none }
def graphPlaysRow : OpenClaim := { program := "ythkpjongjnjfgaa", sum := "f88f3d35732eede7475f185cc2bc1cdd8d510e6f538613aeacdad9377ef35849", func := "haymow/haymowlaw36.GraphPlays", spec := "graphPlays", unfollowed := true, recurses := true, apart := false }
def GraphPlaysSaid : Prop := graphPlaysRow.holds Try.pinned (OpenSpec.ofChange graphPlaysSpec)

/-- ITS FALSE NEIGHBOUR: 'it returns false'. Refute it at one input. -/
def graphPlaysWrong : ChangeSpec := { name := "graphPlays", fn := fun _ => fun
  | [d] => { results := [.lit (.bool false)], args := [d] }
  | _ => none }
def GraphPlaysWrongFalsely : Prop := graphPlaysRow.holds Try.pinned (OpenSpec.ofChange graphPlaysWrong)

/-- 'haymowlaw37.ReachKeeps': WHATEVER THE INPUT: true; the input reads as it did. -/
def reachKeepsSpec : ChangeSpec := { name := "reachKeeps", fn := fun _ => fun
  | [d1, d2] => { results := [.lit (.bool true)], args := [d1, d2] }
  | _ => none }
def reachKeepsRow : OpenClaim := { program := "ythkpjongjnjfgaa", sum := "f88f3d35732eede7475f185cc2bc1cdd8d510e6f538613aeacdad9377ef35849", func := "haymow/haymowlaw37.ReachKeeps", spec := "reachKeeps", unfollowed := true, recurses := true, apart := false }
def ReachKeepsSaid : Prop := reachKeepsRow.holds Try.pinned (OpenSpec.ofChange reachKeepsSpec)

/-- ITS FALSE NEIGHBOUR: 'it returns false'. Refute it at one input. -/
def reachKeepsWrong : ChangeSpec := { name := "reachKeeps", fn := fun _ => fun
  | [d1, d2] => { results := [.lit (.bool false)], args := [d1, d2] }
  | _ => none }
def ReachKeepsWrongFalsely : Prop := reachKeepsRow.holds Try.pinned (OpenSpec.ofChange reachKeepsWrong)

/-- 'haymowlaw37.ReachWays': WHATEVER THE INPUT: true; the input reads as it did. -/
def reachWaysSpec : ChangeSpec := { name := "reachWays", fn := fun _ => fun
  | [d1, d2] => { results := [.lit (.bool true)], args := [d1, d2] }
  | _ => none }
def reachWaysRow : OpenClaim := { program := "ythkpjongjnjfgaa", sum := "f88f3d35732eede7475f185cc2bc1cdd8d510e6f538613aeacdad9377ef35849", func := "haymow/haymowlaw37.ReachWays", spec := "reachWays", unfollowed := true, recurses := true, apart := false }
def ReachWaysSaid : Prop := reachWaysRow.holds Try.pinned (OpenSpec.ofChange reachWaysSpec)

/-- ITS FALSE NEIGHBOUR: 'it returns false'. Refute it at one input. -/
def reachWaysWrong : ChangeSpec := { name := "reachWays", fn := fun _ => fun
  | [d1, d2] => { results := [.lit (.bool false)], args := [d1, d2] }
  | _ => none }
def ReachWaysWrongFalsely : Prop := reachWaysRow.holds Try.pinned (OpenSpec.ofChange reachWaysWrong)

/- THE SECOND FORM. 'bulk': how many values and letters a reading holds, each counted each time it is reached (what is shared counts as often as it is met; a slice's spare places count too). A statement '..UptoSaid' is the law's where the arguments, and the package variables that the reading takes, are together of bulk at most 1048576: NARROWER than '..Said'. Prove '..Said' where nothing that the law and all that it calls make is longer than what came in: it says more and counts as full. Else prove '..UptoSaid'. A law counts once. -/
mutual
def uptoBulk {H : Type} : DataW H → Nat
  | .lit (.string bytes) => bytes.length + 1
  | .lit _ => 1
  | .nil => 1
  | .ptr d => uptoBulk d + 1
  | .slice elems spare => uptoBulkAll elems + uptoBulkAll spare + 1
  | .agg parts => uptoBulkAll parts + 1
  | .iface _ d => uptoBulk d + 1
  | .map entries => uptoBulkEntries entries + 1
  | .held _ => 1
def uptoBulkAll {H : Type} : List (DataW H) → Nat
  | [] => 0
  | d :: r => uptoBulk d + uptoBulkAll r
def uptoBulkEntries {H : Type} : List (Lit × DataW H) → Nat
  | [] => 0
  | x :: r => uptoBulkEntry x + uptoBulkEntries r
def uptoBulkEntry {H : Type} : Lit × DataW H → Nat
  | (.string bytes, d) => bytes.length + uptoBulk d + 1
  | (_, d) => uptoBulk d + 1
 end
def uptoSmall : (H : Type) → List (DataW H) → Bool := fun _ ds => decide (uptoBulkAll ds ≤ 1048576)
def OpenSpec.upto (s : _root_.Go.ChangeSpec) : _root_.Go.OpenSpec := { _root_.Go.OpenSpec.ofChange s with cond := some uptoSmall }

/-- 'haymowlaw41.ImageReads', WHERE WHAT IT READS IS OF BULK AT MOST 1048576: true; the input reads as it did. -/
def imageReadsUptoRow : OpenClaim := { program := "ythkpjongjnjfgaa", sum := "f88f3d35732eede7475f185cc2bc1cdd8d510e6f538613aeacdad9377ef35849", func := "haymow/haymowlaw41.ImageReads", spec := "imageReads", unfollowed := true, recurses := true, apart := false, narrowed := true }
def ImageReadsUptoSaid : Prop := imageReadsUptoRow.holds Try.pinned (OpenSpec.upto imageReadsSpec)

/-- 'haymowlaw41.ImageBytes', WHERE WHAT IT READS IS OF BULK AT MOST 1048576: true; the input reads as it did. -/
def imageBytesUptoRow : OpenClaim := { program := "ythkpjongjnjfgaa", sum := "f88f3d35732eede7475f185cc2bc1cdd8d510e6f538613aeacdad9377ef35849", func := "haymow/haymowlaw41.ImageBytes", spec := "imageBytes", unfollowed := true, recurses := true, apart := false, narrowed := true }
def ImageBytesUptoSaid : Prop := imageBytesUptoRow.holds Try.pinned (OpenSpec.upto imageBytesSpec)

/-- 'haymowlaw36.GraphLinks', WHERE WHAT IT READS IS OF BULK AT MOST 1048576: true; the input reads as it did. -/
def graphLinksUptoRow : OpenClaim := { program := "ythkpjongjnjfgaa", sum := "f88f3d35732eede7475f185cc2bc1cdd8d510e6f538613aeacdad9377ef35849", func := "haymow/haymowlaw36.GraphLinks", spec := "graphLinks", unfollowed := true, recurses := true, apart := false, narrowed := true }
def GraphLinksUptoSaid : Prop := graphLinksUptoRow.holds Try.pinned (OpenSpec.upto graphLinksSpec)

/-- 'haymowlaw36.GraphPlays', WHERE WHAT IT READS IS OF BULK AT MOST 1048576: true; the input reads as it did. -/
def graphPlaysUptoRow : OpenClaim := { program := "ythkpjongjnjfgaa", sum := "f88f3d35732eede7475f185cc2bc1cdd8d510e6f538613aeacdad9377ef35849", func := "haymow/haymowlaw36.GraphPlays", spec := "graphPlays", unfollowed := true, recurses := true, apart := false, narrowed := true }
def GraphPlaysUptoSaid : Prop := graphPlaysUptoRow.holds Try.pinned (OpenSpec.upto graphPlaysSpec)

/-- 'haymowlaw37.ReachKeeps', WHERE WHAT IT READS IS OF BULK AT MOST 1048576: true; the input reads as it did. -/
def reachKeepsUptoRow : OpenClaim := { program := "ythkpjongjnjfgaa", sum := "f88f3d35732eede7475f185cc2bc1cdd8d510e6f538613aeacdad9377ef35849", func := "haymow/haymowlaw37.ReachKeeps", spec := "reachKeeps", unfollowed := true, recurses := true, apart := false, narrowed := true }
def ReachKeepsUptoSaid : Prop := reachKeepsUptoRow.holds Try.pinned (OpenSpec.upto reachKeepsSpec)

/-- 'haymowlaw37.ReachWays', WHERE WHAT IT READS IS OF BULK AT MOST 1048576: true; the input reads as it did. -/
def reachWaysUptoRow : OpenClaim := { program := "ythkpjongjnjfgaa", sum := "f88f3d35732eede7475f185cc2bc1cdd8d510e6f538613aeacdad9377ef35849", func := "haymow/haymowlaw37.ReachWays", spec := "reachWays", unfollowed := true, recurses := true, apart := false, narrowed := true }
def ReachWaysUptoSaid : Prop := reachWaysUptoRow.holds Try.pinned (OpenSpec.upto reachWaysSpec)

end Rows
end Go.Proofs.Ythkpjongjnjfgaa
