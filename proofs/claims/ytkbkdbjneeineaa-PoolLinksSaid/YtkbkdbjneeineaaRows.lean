/-
  No cell of these rows narrows 'for every input' (looked for: loops, veiled, ifaces, maps, wideKeys, modest, calm, conditions, laid).
  DERIVED. THE GIVEN ROWS OF THIS SEAT. 9 by the template 'for every input the law returns true; each argument reads behind the call as it read before'; 0 by the template 'total and deterministic' (their statements: YtkbkdbjneeineaaTotals.lean).
  GIVEN WITH THE SEED: the statements are not yours to turn. If you find one false, say at which input.
  Laid BY PROGRAM, IN A SANDBOX (cutbox-rows.mjs): the forced cells as the released guide's own fill.sh prints them over the translation 7db0389d0f493c26… (all of the seat's roots in one cut). By AI agents, Wed Nov 11 2026. No macro, syntax, notation, axiom, sorry.
-/
import Derived.Test.YtkbkdbjneeineaaChecked
import GoSem.Claim
import GoSem.ClaimJoined
import GoSem.ClaimMapViews
import Derived.JoinedTies
import Derived.KernelRfl
namespace Go.Proofs.Ytkbkdbjneeineaa
/- THE CELL 'sum', in the pinned program and in every row, IS THE sha256 OF THE DUMP (.gsa) THAT YtkbkdbjneeineaaProg.lean LOADS. Nothing in Lean hashes anything: it is a label: what it is worth is what the hold of that sum in a sandbox is worth. -/
noncomputable def Try.pinned : Pinned := { name := "ytkbkdbjneeineaa", sum := "7db0389d0f493c268b344203d48ebe0702c26695fa6ed05639ac7ef3959597e8", checked := Try.checked }
namespace Rows
def none {H : Type} : Left H := { results := [], args := [] }

/-- 'haymowlaw10.PoolLinks': WHATEVER THE INPUT: true; the input reads as it did. -/
def poolLinksSpec : ChangeSpec := { name := "poolLinks", fn := fun _ => fun
  | [d1, d2, d3] => { results := [.lit (.bool true)], args := [d1, d2, d3] }
  | _ => none }
def poolLinksRow : OpenClaim := { program := "ytkbkdbjneeineaa", sum := "7db0389d0f493c268b344203d48ebe0702c26695fa6ed05639ac7ef3959597e8", func := "haymow/haymowlaw10.PoolLinks", spec := "poolLinks", inPlace := ["math/bits.Add64"], unfollowed := true, recurses := true, apart := false }
def PoolLinksSaid : Prop := poolLinksRow.holds Try.pinned (OpenSpec.ofChange poolLinksSpec)

/-- ITS FALSE NEIGHBOUR: 'it returns false'. Refute it at one input. -/
def poolLinksWrong : ChangeSpec := { name := "poolLinks", fn := fun _ => fun
  | [d1, d2, d3] => { results := [.lit (.bool false)], args := [d1, d2, d3] }
  | _ => none }
def PoolLinksWrongFalsely : Prop := poolLinksRow.holds Try.pinned (OpenSpec.ofChange poolLinksWrong)

/-- 'haymowlaw41.ImageReads': WHATEVER THE INPUT: true; the input reads as it did. -/
def imageReadsSpec : ChangeSpec := { name := "imageReads", fn := fun _ => fun
  | [d] => { results := [.lit (.bool true)], args := [d] }
  | _ => none }
def imageReadsRow : OpenClaim := { program := "ytkbkdbjneeineaa", sum := "7db0389d0f493c268b344203d48ebe0702c26695fa6ed05639ac7ef3959597e8", func := "haymow/haymowlaw41.ImageReads", spec := "imageReads", unfollowed := true, recurses := true, apart := false }
def ImageReadsSaid : Prop := imageReadsRow.holds Try.pinned (OpenSpec.ofChange imageReadsSpec)

/-- ITS FALSE NEIGHBOUR: 'it returns false'. Refute it at one input. -/
def imageReadsWrong : ChangeSpec := { name := "imageReads", fn := fun _ => fun
  | [d] => { results := [.lit (.bool false)], args := [d] }
  | _ => none }
def ImageReadsWrongFalsely : Prop := imageReadsRow.holds Try.pinned (OpenSpec.ofChange imageReadsWrong)

/-- 'haymowlaw41.ImageBytes': WHATEVER THE INPUT: true; the input reads as it did. -/
def imageBytesSpec : ChangeSpec := { name := "imageBytes", fn := fun _ => fun
  | [d1, d2] => { results := [.lit (.bool true)], args := [d1, d2] }
  | _ => none }
def imageBytesRow : OpenClaim := { program := "ytkbkdbjneeineaa", sum := "7db0389d0f493c268b344203d48ebe0702c26695fa6ed05639ac7ef3959597e8", func := "haymow/haymowlaw41.ImageBytes", spec := "imageBytes", unfollowed := true, recurses := true, apart := false }
def ImageBytesSaid : Prop := imageBytesRow.holds Try.pinned (OpenSpec.ofChange imageBytesSpec)

/-- ITS FALSE NEIGHBOUR: 'it returns false'. Refute it at one input. -/
def imageBytesWrong : ChangeSpec := { name := "imageBytes", fn := fun _ => fun
  | [d1, d2] => { results := [.lit (.bool false)], args := [d1, d2] }
  | _ => none }
def ImageBytesWrongFalsely : Prop := imageBytesRow.holds Try.pinned (OpenSpec.ofChange imageBytesWrong)

/-- 'haymowlaw18.HandlesPlay': WHATEVER THE INPUT: true; the input reads as it did. -/
def handlesPlaySpec : ChangeSpec := { name := "handlesPlay", fn := fun _ => fun
  | [d] => { results := [.lit (.bool true)], args := [d] }
  | _ => none }
def handlesPlayRow : OpenClaim := { program := "ytkbkdbjneeineaa", sum := "7db0389d0f493c268b344203d48ebe0702c26695fa6ed05639ac7ef3959597e8", func := "haymow/haymowlaw18.HandlesPlay", spec := "handlesPlay", inPlace := ["math/bits.Add64", "math/bits.Sub64"], unfollowed := true, recurses := true, apart := false }
def HandlesPlaySaid : Prop := handlesPlayRow.holds Try.pinned (OpenSpec.ofChange handlesPlaySpec)

/-- ITS FALSE NEIGHBOUR: 'it returns false'. Refute it at one input. -/
def handlesPlayWrong : ChangeSpec := { name := "handlesPlay", fn := fun _ => fun
  | [d] => { results := [.lit (.bool false)], args := [d] }
  | _ => none }
def HandlesPlayWrongFalsely : Prop := handlesPlayRow.holds Try.pinned (OpenSpec.ofChange handlesPlayWrong)

/-- 'haymowlaw15.LargeGreys': WHATEVER THE INPUT: true; the input reads as it did. -/
def largeGreysSpec : ChangeSpec := { name := "largeGreys", fn := fun _ => fun
  | [d1, d2, d3] => { results := [.lit (.bool true)], args := [d1, d2, d3] }
  | _ => none }
def largeGreysRow : OpenClaim := { program := "ytkbkdbjneeineaa", sum := "7db0389d0f493c268b344203d48ebe0702c26695fa6ed05639ac7ef3959597e8", func := "haymow/haymowlaw15.LargeGreys", spec := "largeGreys", inPlace := ["math/bits.Add64"], unfollowed := true, recurses := true, apart := false }
def LargeGreysSaid : Prop := largeGreysRow.holds Try.pinned (OpenSpec.ofChange largeGreysSpec)

/-- ITS FALSE NEIGHBOUR: 'it returns false'. Refute it at one input. -/
def largeGreysWrong : ChangeSpec := { name := "largeGreys", fn := fun _ => fun
  | [d1, d2, d3] => { results := [.lit (.bool false)], args := [d1, d2, d3] }
  | _ => none }
def LargeGreysWrongFalsely : Prop := largeGreysRow.holds Try.pinned (OpenSpec.ofChange largeGreysWrong)

/-- 'haymowlaw15.LargeSweeps': WHATEVER THE INPUT: true; the input reads as it did. -/
def largeSweepsSpec : ChangeSpec := { name := "largeSweeps", fn := fun _ => fun
  | [d1, d2, d3] => { results := [.lit (.bool true)], args := [d1, d2, d3] }
  | _ => none }
def largeSweepsRow : OpenClaim := { program := "ytkbkdbjneeineaa", sum := "7db0389d0f493c268b344203d48ebe0702c26695fa6ed05639ac7ef3959597e8", func := "haymow/haymowlaw15.LargeSweeps", spec := "largeSweeps", inPlace := ["math/bits.Add64"], unfollowed := true, recurses := true, apart := false }
def LargeSweepsSaid : Prop := largeSweepsRow.holds Try.pinned (OpenSpec.ofChange largeSweepsSpec)

/-- ITS FALSE NEIGHBOUR: 'it returns false'. Refute it at one input. -/
def largeSweepsWrong : ChangeSpec := { name := "largeSweeps", fn := fun _ => fun
  | [d1, d2, d3] => { results := [.lit (.bool false)], args := [d1, d2, d3] }
  | _ => none }
def LargeSweepsWrongFalsely : Prop := largeSweepsRow.holds Try.pinned (OpenSpec.ofChange largeSweepsWrong)

/-- 'haymowlaw36.GraphLinks': WHATEVER THE INPUT: true; the input reads as it did. -/
def graphLinksSpec : ChangeSpec := { name := "graphLinks", fn := fun _ => fun
  | [d] => { results := [.lit (.bool true)], args := [d] }
  | _ => none }
def graphLinksRow : OpenClaim := { program := "ytkbkdbjneeineaa", sum := "7db0389d0f493c268b344203d48ebe0702c26695fa6ed05639ac7ef3959597e8", func := "haymow/haymowlaw36.GraphLinks", spec := "graphLinks", unfollowed := true, recurses := true, apart := false }
def GraphLinksSaid : Prop := graphLinksRow.holds Try.pinned (OpenSpec.ofChange graphLinksSpec)

/-- ITS FALSE NEIGHBOUR: 'it returns false'. Refute it at one input. -/
def graphLinksWrong : ChangeSpec := { name := "graphLinks", fn := fun _ => fun
  | [d] => { results := [.lit (.bool false)], args := [d] }
  | _ => none }
def GraphLinksWrongFalsely : Prop := graphLinksRow.holds Try.pinned (OpenSpec.ofChange graphLinksWrong)

/-- 'haymowlaw36.GraphPlays': WHATEVER THE INPUT: true; the input reads as it did. -/
def graphPlaysSpec : ChangeSpec := { name := "graphPlays", fn := fun _ => fun
  | [d] => { results := [.lit (.bool true)], args := [d] }
  | _ => none }
def graphPlaysRow : OpenClaim := { program := "ytkbkdbjneeineaa", sum := "7db0389d0f493c268b344203d48ebe0702c26695fa6ed05639ac7ef3959597e8", func := "haymow/haymowlaw36.GraphPlays", spec := "graphPlays", unfollowed := true, recurses := true, apart := false }
def GraphPlaysSaid : Prop := graphPlaysRow.holds Try.pinned (OpenSpec.ofChange graphPlaysSpec)

/-- ITS FALSE NEIGHBOUR: 'it returns false'. Refute it at one input. -/
def graphPlaysWrong : ChangeSpec := { name := "graphPlays", fn := fun _ => fun
  | [d] => { results := [.lit (.bool false)], args := [d] }
  | _ => none }
def GraphPlaysWrongFalsely : Prop := graphPlaysRow.holds Try.pinned (OpenSpec.ofChange graphPlaysWrong)

/-- 'haymowlaw15.LargePlays': WHATEVER THE INPUT: true; the input reads as it did. -/
def largePlaysSpec : ChangeSpec := { name := "largePlays", fn := fun _ => fun
  | [d] => { results := [.lit (.bool true)], args := [d] }
  | _ => none }
def largePlaysRow : OpenClaim := { program := "ytkbkdbjneeineaa", sum := "7db0389d0f493c268b344203d48ebe0702c26695fa6ed05639ac7ef3959597e8", func := "haymow/haymowlaw15.LargePlays", spec := "largePlays", inPlace := ["math/bits.Add64", "math/bits.Sub64"], unfollowed := true, recurses := true, apart := false }
def LargePlaysSaid : Prop := largePlaysRow.holds Try.pinned (OpenSpec.ofChange largePlaysSpec)

/-- ITS FALSE NEIGHBOUR: 'it returns false'. Refute it at one input. -/
def largePlaysWrong : ChangeSpec := { name := "largePlays", fn := fun _ => fun
  | [d] => { results := [.lit (.bool false)], args := [d] }
  | _ => none }
def LargePlaysWrongFalsely : Prop := largePlaysRow.holds Try.pinned (OpenSpec.ofChange largePlaysWrong)

/- THE SECOND FORM. 'bulk': how many values and letters a reading holds, each counted each time it is reached (what is shared counts as often as it is met; a slice's spare places count too). A statement '..UptoSaid' is the law's where the arguments, and the package variables that the reading takes, are together of bulk at most 1048576: NARROWER than '..Said'. Prove '..Said' where nothing that the law and all that it calls make is longer than what came in: it says more and counts as full. Else prove '..UptoSaid'. A law counts once. -/
mutual
def uptoBulk {H : Type} : DataW H → Nat
  | .lit (.string bytes) => bytes.length + 1
  | .lit _ => 1
  | .nil => 1
  | .ptr d => uptoBulk d + 1
  | .slice elems spare => uptoBulkAll elems + uptoBulkAll spare + 1
  | .agg parts => uptoBulkAll parts + 1
  | .iface _ d => uptoBulk d + 1
  | .map entries => uptoBulkEntries entries + 1
  | .held _ => 1
def uptoBulkAll {H : Type} : List (DataW H) → Nat
  | [] => 0
  | d :: r => uptoBulk d + uptoBulkAll r
def uptoBulkEntries {H : Type} : List (Lit × DataW H) → Nat
  | [] => 0
  | x :: r => uptoBulkEntry x + uptoBulkEntries r
def uptoBulkEntry {H : Type} : Lit × DataW H → Nat
  | (.string bytes, d) => bytes.length + uptoBulk d + 1
  | (_, d) => uptoBulk d + 1
 end
def uptoSmall : (H : Type) → List (DataW H) → Bool := fun _ ds => decide (uptoBulkAll ds ≤ 1048576)
def OpenSpec.upto (s : _root_.Go.ChangeSpec) : _root_.Go.OpenSpec := { _root_.Go.OpenSpec.ofChange s with cond := some uptoSmall }

/-- 'haymowlaw10.PoolLinks', WHERE WHAT IT READS IS OF BULK AT MOST 1048576: true; the input reads as it did. -/
def poolLinksUptoRow : OpenClaim := { program := "ytkbkdbjneeineaa", sum := "7db0389d0f493c268b344203d48ebe0702c26695fa6ed05639ac7ef3959597e8", func := "haymow/haymowlaw10.PoolLinks", spec := "poolLinks", inPlace := ["math/bits.Add64"], unfollowed := true, recurses := true, apart := false, narrowed := true }
def PoolLinksUptoSaid : Prop := poolLinksUptoRow.holds Try.pinned (OpenSpec.upto poolLinksSpec)

/-- 'haymowlaw41.ImageReads', WHERE WHAT IT READS IS OF BULK AT MOST 1048576: true; the input reads as it did. -/
def imageReadsUptoRow : OpenClaim := { program := "ytkbkdbjneeineaa", sum := "7db0389d0f493c268b344203d48ebe0702c26695fa6ed05639ac7ef3959597e8", func := "haymow/haymowlaw41.ImageReads", spec := "imageReads", unfollowed := true, recurses := true, apart := false, narrowed := true }
def ImageReadsUptoSaid : Prop := imageReadsUptoRow.holds Try.pinned (OpenSpec.upto imageReadsSpec)

/-- 'haymowlaw41.ImageBytes', WHERE WHAT IT READS IS OF BULK AT MOST 1048576: true; the input reads as it did. -/
def imageBytesUptoRow : OpenClaim := { program := "ytkbkdbjneeineaa", sum := "7db0389d0f493c268b344203d48ebe0702c26695fa6ed05639ac7ef3959597e8", func := "haymow/haymowlaw41.ImageBytes", spec := "imageBytes", unfollowed := true, recurses := true, apart := false, narrowed := true }
def ImageBytesUptoSaid : Prop := imageBytesUptoRow.holds Try.pinned (OpenSpec.upto imageBytesSpec)

/-- 'haymowlaw18.HandlesPlay', WHERE WHAT IT READS IS OF BULK AT MOST 1048576: true; the input reads as it did. -/
def handlesPlayUptoRow : OpenClaim := { program := "ytkbkdbjneeineaa", sum := "7db0389d0f493c268b344203d48ebe0702c26695fa6ed05639ac7ef3959597e8", func := "haymow/haymowlaw18.HandlesPlay", spec := "handlesPlay", inPlace := ["math/bits.Add64", "math/bits.Sub64"], unfollowed := true, recurses := true, apart := false, narrowed := true }
def HandlesPlayUptoSaid : Prop := handlesPlayUptoRow.holds Try.pinned (OpenSpec.upto handlesPlaySpec)

/-- 'haymowlaw15.LargeGreys', WHERE WHAT IT READS IS OF BULK AT MOST 1048576: true; the input reads as it did. -/
def largeGreysUptoRow : OpenClaim := { program := "ytkbkdbjneeineaa", sum := "7db0389d0f493c268b344203d48ebe0702c26695fa6ed05639ac7ef3959597e8", func := "haymow/haymowlaw15.LargeGreys", spec := "largeGreys", inPlace := ["math/bits.Add64"], unfollowed := true, recurses := true, apart := false, narrowed := true }
def LargeGreysUptoSaid : Prop := largeGreysUptoRow.holds Try.pinned (OpenSpec.upto largeGreysSpec)

/-- 'haymowlaw15.LargeSweeps', WHERE WHAT IT READS IS OF BULK AT MOST 1048576: true; the input reads as it did. -/
def largeSweepsUptoRow : OpenClaim := { program := "ytkbkdbjneeineaa", sum := "7db0389d0f493c268b344203d48ebe0702c26695fa6ed05639ac7ef3959597e8", func := "haymow/haymowlaw15.LargeSweeps", spec := "largeSweeps", inPlace := ["math/bits.Add64"], unfollowed := true, recurses := true, apart := false, narrowed := true }
def LargeSweepsUptoSaid : Prop := largeSweepsUptoRow.holds Try.pinned (OpenSpec.upto largeSweepsSpec)

/-- 'haymowlaw36.GraphLinks', WHERE WHAT IT READS IS OF BULK AT MOST 1048576: true; the input reads as it did. -/
def graphLinksUptoRow : OpenClaim := { program := "ytkbkdbjneeineaa", sum := "7db0389d0f493c268b344203d48ebe0702c26695fa6ed05639ac7ef3959597e8", func := "haymow/haymowlaw36.GraphLinks", spec := "graphLinks", unfollowed := true, recurses := true, apart := false, narrowed := true }
def GraphLinksUptoSaid : Prop := graphLinksUptoRow.holds Try.pinned (OpenSpec.upto graphLinksSpec)

/-- 'haymowlaw36.GraphPlays', WHERE WHAT IT READS IS OF BULK AT MOST 1048576: true; the input reads as it did. -/
def graphPlaysUptoRow : OpenClaim := { program := "ytkbkdbjneeineaa", sum := "7db0389d0f493c268b344203d48ebe0702c26695fa6ed05639ac7ef3959597e8", func := "haymow/haymowlaw36.GraphPlays", spec := "graphPlays", unfollowed := true, recurses := true, apart := false, narrowed := true }
def GraphPlaysUptoSaid : Prop := graphPlaysUptoRow.holds Try.pinned (OpenSpec.upto graphPlaysSpec)

/-- 'haymowlaw15.LargePlays', WHERE WHAT IT READS IS OF BULK AT MOST 1048576: true; the input reads as it did. -/
def largePlaysUptoRow : OpenClaim := { program := "ytkbkdbjneeineaa", sum := "7db0389d0f493c268b344203d48ebe0702c26695fa6ed05639ac7ef3959597e8", func := "haymow/haymowlaw15.LargePlays", spec := "largePlays", inPlace := ["math/bits.Add64", "math/bits.Sub64"], unfollowed := true, recurses := true, apart := false, narrowed := true }
def LargePlaysUptoSaid : Prop := largePlaysUptoRow.holds Try.pinned (OpenSpec.upto largePlaysSpec)

end Rows
end Go.Proofs.Ytkbkdbjneeineaa
