/-
  No cell of these rows narrows 'for every input' (looked for: loops, veiled, ifaces, maps, wideKeys, modest, calm, conditions, laid).
  DERIVED. THE GIVEN ROWS OF THIS SEAT. 12 by the template 'for every input the law returns true; each argument reads behind the call as it read before'; 0 by the template 'total and deterministic' (their statements: YtjfblnpolgoojaaTotals.lean).
  GIVEN WITH THE SEED: the statements are not yours to turn. If you find one false, say at which input.
  Laid BY PROGRAM, IN A SANDBOX (cutbox-rows.mjs): the forced cells as the released guide's own fill.sh prints them over the translation e0242b6b519b8d35… (all of the seat's roots in one cut). By AI agents, Wed Nov 11 2026. No macro, syntax, notation, axiom, sorry.
-/
import Derived.Test.YtjfblnpolgoojaaChecked
import GoSem.Claim
import GoSem.ClaimJoined
import GoSem.ClaimMapViews
import Derived.JoinedTies
import Derived.KernelRfl
namespace Go.Proofs.Ytjfblnpolgoojaa
/- THE CELL 'sum', in the pinned program and in every row, IS THE sha256 OF THE DUMP (.gsa) THAT YtjfblnpolgoojaaProg.lean LOADS. Nothing in Lean hashes anything: it is a label: what it is worth is what the hold of that sum in a sandbox is worth. -/
noncomputable def Try.pinned : Pinned := { name := "ytjfblnpolgoojaa", sum := "e0242b6b519b8d358d28eb9679d4565eb2edb5c2165c94057d95437c3ac4f187", checked := Try.checked }
namespace Rows
def none {H : Type} : Left H := { results := [], args := [] }

/-- 'haymowlaw44.LoadChurns': WHATEVER THE INPUT: true; the input reads as it did. -/
def loadChurnsSpec : ChangeSpec := { name := "loadChurns", fn := fun _ => fun
  | [d1, d2, d3] => { results := [.lit (.bool true)], args := [d1, d2, d3] }
  | _ => none }
def loadChurnsRow : OpenClaim := { program := "ytjfblnpolgoojaa", sum := "e0242b6b519b8d358d28eb9679d4565eb2edb5c2165c94057d95437c3ac4f187", func := "haymow/haymowlaw44.LoadChurns", spec := "loadChurns", apart := false }
def LoadChurnsSaid : Prop := loadChurnsRow.holds Try.pinned (OpenSpec.ofChange loadChurnsSpec)

/-- ITS FALSE NEIGHBOUR: 'it returns false'. Refute it at one input. -/
def loadChurnsWrong : ChangeSpec := { name := "loadChurns", fn := fun _ => fun
  | [d1, d2, d3] => { results := [.lit (.bool false)], args := [d1, d2, d3] }
  | _ => none }
def LoadChurnsWrongFalsely : Prop := loadChurnsRow.holds Try.pinned (OpenSpec.ofChange loadChurnsWrong)

/-- 'haymowlaw44.LoadScripts': WHATEVER THE INPUT: true; the input reads as it did. -/
def loadScriptsSpec : ChangeSpec := { name := "loadScripts", fn := fun _ => fun
  | [d1, d2, d3] => { results := [.lit (.bool true)], args := [d1, d2, d3] }
  | _ => none }
def loadScriptsRow : OpenClaim := { program := "ytjfblnpolgoojaa", sum := "e0242b6b519b8d358d28eb9679d4565eb2edb5c2165c94057d95437c3ac4f187", func := "haymow/haymowlaw44.LoadScripts", spec := "loadScripts", recurses := true, apart := false }
def LoadScriptsSaid : Prop := loadScriptsRow.holds Try.pinned (OpenSpec.ofChange loadScriptsSpec)

/-- ITS FALSE NEIGHBOUR: 'it returns false'. Refute it at one input. -/
def loadScriptsWrong : ChangeSpec := { name := "loadScripts", fn := fun _ => fun
  | [d1, d2, d3] => { results := [.lit (.bool false)], args := [d1, d2, d3] }
  | _ => none }
def LoadScriptsWrongFalsely : Prop := loadScriptsRow.holds Try.pinned (OpenSpec.ofChange loadScriptsWrong)

/-- 'haymowlaw47.DiffBack': WHATEVER THE INPUT: true; the input reads as it did. -/
def diffBackSpec : ChangeSpec := { name := "diffBack", fn := fun _ => fun
  | [d1, d2] => { results := [.lit (.bool true)], args := [d1, d2] }
  | _ => none }
def diffBackRow : OpenClaim := { program := "ytjfblnpolgoojaa", sum := "e0242b6b519b8d358d28eb9679d4565eb2edb5c2165c94057d95437c3ac4f187", func := "haymow/haymowlaw47.DiffBack", spec := "diffBack", unfollowed := true, recurses := true, apart := false }
def DiffBackSaid : Prop := diffBackRow.holds Try.pinned (OpenSpec.ofChange diffBackSpec)

/-- ITS FALSE NEIGHBOUR: 'it returns false'. Refute it at one input. -/
def diffBackWrong : ChangeSpec := { name := "diffBack", fn := fun _ => fun
  | [d1, d2] => { results := [.lit (.bool false)], args := [d1, d2] }
  | _ => none }
def DiffBackWrongFalsely : Prop := diffBackRow.holds Try.pinned (OpenSpec.ofChange diffBackWrong)

/-- 'haymowlaw08.MemCloses': WHATEVER THE INPUT: true; the input reads as it did. -/
def memClosesSpec : ChangeSpec := { name := "memCloses", fn := fun _ => fun
  | [d1, d2] => { results := [.lit (.bool true)], args := [d1, d2] }
  | _ => none }
def memClosesRow : OpenClaim := { program := "ytjfblnpolgoojaa", sum := "e0242b6b519b8d358d28eb9679d4565eb2edb5c2165c94057d95437c3ac4f187", func := "haymow/haymowlaw08.MemCloses", spec := "memCloses", inPlace := ["math/bits.Add64"], apart := false }
def MemClosesSaid : Prop := memClosesRow.holds Try.pinned (OpenSpec.ofChange memClosesSpec)

/-- ITS FALSE NEIGHBOUR: 'it returns false'. Refute it at one input. -/
def memClosesWrong : ChangeSpec := { name := "memCloses", fn := fun _ => fun
  | [d1, d2] => { results := [.lit (.bool false)], args := [d1, d2] }
  | _ => none }
def MemClosesWrongFalsely : Prop := memClosesRow.holds Try.pinned (OpenSpec.ofChange memClosesWrong)

/-- 'haymowlaw08.MemHolds': WHATEVER THE INPUT: true; the input reads as it did. -/
def memHoldsSpec : ChangeSpec := { name := "memHolds", fn := fun _ => fun
  | [d1, d2, d3] => { results := [.lit (.bool true)], args := [d1, d2, d3] }
  | _ => none }
def memHoldsRow : OpenClaim := { program := "ytjfblnpolgoojaa", sum := "e0242b6b519b8d358d28eb9679d4565eb2edb5c2165c94057d95437c3ac4f187", func := "haymow/haymowlaw08.MemHolds", spec := "memHolds", inPlace := ["math/bits.Add64"], apart := false }
def MemHoldsSaid : Prop := memHoldsRow.holds Try.pinned (OpenSpec.ofChange memHoldsSpec)

/-- ITS FALSE NEIGHBOUR: 'it returns false'. Refute it at one input. -/
def memHoldsWrong : ChangeSpec := { name := "memHolds", fn := fun _ => fun
  | [d1, d2, d3] => { results := [.lit (.bool false)], args := [d1, d2, d3] }
  | _ => none }
def MemHoldsWrongFalsely : Prop := memHoldsRow.holds Try.pinned (OpenSpec.ofChange memHoldsWrong)

/-- 'haymowlaw14.SemiTakes': WHATEVER THE INPUT: true; the input reads as it did. -/
def semiTakesSpec : ChangeSpec := { name := "semiTakes", fn := fun _ => fun
  | [d1, d2, d3] => { results := [.lit (.bool true)], args := [d1, d2, d3] }
  | _ => none }
def semiTakesRow : OpenClaim := { program := "ytjfblnpolgoojaa", sum := "e0242b6b519b8d358d28eb9679d4565eb2edb5c2165c94057d95437c3ac4f187", func := "haymow/haymowlaw14.SemiTakes", spec := "semiTakes", inPlace := ["math/bits.Add64"], apart := false }
def SemiTakesSaid : Prop := semiTakesRow.holds Try.pinned (OpenSpec.ofChange semiTakesSpec)

/-- ITS FALSE NEIGHBOUR: 'it returns false'. Refute it at one input. -/
def semiTakesWrong : ChangeSpec := { name := "semiTakes", fn := fun _ => fun
  | [d1, d2, d3] => { results := [.lit (.bool false)], args := [d1, d2, d3] }
  | _ => none }
def SemiTakesWrongFalsely : Prop := semiTakesRow.holds Try.pinned (OpenSpec.ofChange semiTakesWrong)

/-- 'haymowlaw08.MemPlays': WHATEVER THE INPUT: true; the input reads as it did. -/
def memPlaysSpec : ChangeSpec := { name := "memPlays", fn := fun _ => fun
  | [d] => { results := [.lit (.bool true)], args := [d] }
  | _ => none }
def memPlaysRow : OpenClaim := { program := "ytjfblnpolgoojaa", sum := "e0242b6b519b8d358d28eb9679d4565eb2edb5c2165c94057d95437c3ac4f187", func := "haymow/haymowlaw08.MemPlays", spec := "memPlays", inPlace := ["math/bits.Add64"], apart := false }
def MemPlaysSaid : Prop := memPlaysRow.holds Try.pinned (OpenSpec.ofChange memPlaysSpec)

/-- ITS FALSE NEIGHBOUR: 'it returns false'. Refute it at one input. -/
def memPlaysWrong : ChangeSpec := { name := "memPlays", fn := fun _ => fun
  | [d] => { results := [.lit (.bool false)], args := [d] }
  | _ => none }
def MemPlaysWrongFalsely : Prop := memPlaysRow.holds Try.pinned (OpenSpec.ofChange memPlaysWrong)

/-- 'haymowlaw17.FramesStay': WHATEVER THE INPUT: true; the input reads as it did. -/
def framesStaySpec : ChangeSpec := { name := "framesStay", fn := fun _ => fun
  | [d1, d2] => { results := [.lit (.bool true)], args := [d1, d2] }
  | _ => none }
def framesStayRow : OpenClaim := { program := "ytjfblnpolgoojaa", sum := "e0242b6b519b8d358d28eb9679d4565eb2edb5c2165c94057d95437c3ac4f187", func := "haymow/haymowlaw17.FramesStay", spec := "framesStay", inPlace := ["math/bits.Add64"], apart := false }
def FramesStaySaid : Prop := framesStayRow.holds Try.pinned (OpenSpec.ofChange framesStaySpec)

/-- ITS FALSE NEIGHBOUR: 'it returns false'. Refute it at one input. -/
def framesStayWrong : ChangeSpec := { name := "framesStay", fn := fun _ => fun
  | [d1, d2] => { results := [.lit (.bool false)], args := [d1, d2] }
  | _ => none }
def FramesStayWrongFalsely : Prop := framesStayRow.holds Try.pinned (OpenSpec.ofChange framesStayWrong)

/-- 'haymowlaw10.PoolFresh': WHATEVER THE INPUT: true; the input reads as it did. -/
def poolFreshSpec : ChangeSpec := { name := "poolFresh", fn := fun _ => fun
  | [d] => { results := [.lit (.bool true)], args := [d] }
  | _ => none }
def poolFreshRow : OpenClaim := { program := "ytjfblnpolgoojaa", sum := "e0242b6b519b8d358d28eb9679d4565eb2edb5c2165c94057d95437c3ac4f187", func := "haymow/haymowlaw10.PoolFresh", spec := "poolFresh", inPlace := ["math/bits.Add64"], apart := false }
def PoolFreshSaid : Prop := poolFreshRow.holds Try.pinned (OpenSpec.ofChange poolFreshSpec)

/-- ITS FALSE NEIGHBOUR: 'it returns false'. Refute it at one input. -/
def poolFreshWrong : ChangeSpec := { name := "poolFresh", fn := fun _ => fun
  | [d] => { results := [.lit (.bool false)], args := [d] }
  | _ => none }
def PoolFreshWrongFalsely : Prop := poolFreshRow.holds Try.pinned (OpenSpec.ofChange poolFreshWrong)

/-- 'haymowlaw14.SemiTurns': WHATEVER THE INPUT: true; the input reads as it did. -/
def semiTurnsSpec : ChangeSpec := { name := "semiTurns", fn := fun _ => fun
  | [d1, d2, d3] => { results := [.lit (.bool true)], args := [d1, d2, d3] }
  | _ => none }
def semiTurnsRow : OpenClaim := { program := "ytjfblnpolgoojaa", sum := "e0242b6b519b8d358d28eb9679d4565eb2edb5c2165c94057d95437c3ac4f187", func := "haymow/haymowlaw14.SemiTurns", spec := "semiTurns", inPlace := ["math/bits.Add64"], apart := false }
def SemiTurnsSaid : Prop := semiTurnsRow.holds Try.pinned (OpenSpec.ofChange semiTurnsSpec)

/-- ITS FALSE NEIGHBOUR: 'it returns false'. Refute it at one input. -/
def semiTurnsWrong : ChangeSpec := { name := "semiTurns", fn := fun _ => fun
  | [d1, d2, d3] => { results := [.lit (.bool false)], args := [d1, d2, d3] }
  | _ => none }
def SemiTurnsWrongFalsely : Prop := semiTurnsRow.holds Try.pinned (OpenSpec.ofChange semiTurnsWrong)

/-- 'haymowlaw10.PoolPlays': WHATEVER THE INPUT: true; the input reads as it did. -/
def poolPlaysSpec : ChangeSpec := { name := "poolPlays", fn := fun _ => fun
  | [d1, d2] => { results := [.lit (.bool true)], args := [d1, d2] }
  | _ => none }
def poolPlaysRow : OpenClaim := { program := "ytjfblnpolgoojaa", sum := "e0242b6b519b8d358d28eb9679d4565eb2edb5c2165c94057d95437c3ac4f187", func := "haymow/haymowlaw10.PoolPlays", spec := "poolPlays", inPlace := ["math/bits.Add64", "math/bits.Sub64"], apart := false }
def PoolPlaysSaid : Prop := poolPlaysRow.holds Try.pinned (OpenSpec.ofChange poolPlaysSpec)

/-- ITS FALSE NEIGHBOUR: 'it returns false'. Refute it at one input. -/
def poolPlaysWrong : ChangeSpec := { name := "poolPlays", fn := fun _ => fun
  | [d1, d2] => { results := [.lit (.bool false)], args := [d1, d2] }
  | _ => none }
def PoolPlaysWrongFalsely : Prop := poolPlaysRow.holds Try.pinned (OpenSpec.ofChange poolPlaysWrong)

/-- 'haymowlaw10.PoolLinks': WHATEVER THE INPUT: true; the input reads as it did. -/
def poolLinksSpec : ChangeSpec := { name := "poolLinks", fn := fun _ => fun
  | [d1, d2, d3] => { results := [.lit (.bool true)], args := [d1, d2, d3] }
  | _ => none }
def poolLinksRow : OpenClaim := { program := "ytjfblnpolgoojaa", sum := "e0242b6b519b8d358d28eb9679d4565eb2edb5c2165c94057d95437c3ac4f187", func := "haymow/haymowlaw10.PoolLinks", spec := "poolLinks", inPlace := ["math/bits.Add64"], unfollowed := true, recurses := true, apart := false }
def PoolLinksSaid : Prop := poolLinksRow.holds Try.pinned (OpenSpec.ofChange poolLinksSpec)

/-- ITS FALSE NEIGHBOUR: 'it returns false'. Refute it at one input. -/
def poolLinksWrong : ChangeSpec := { name := "poolLinks", fn := fun _ => fun
  | [d1, d2, d3] => { results := [.lit (.bool false)], args := [d1, d2, d3] }
  | _ => none }
def PoolLinksWrongFalsely : Prop := poolLinksRow.holds Try.pinned (OpenSpec.ofChange poolLinksWrong)

/- THE SECOND FORM. 'bulk': how many values and letters a reading holds, each counted each time it is reached (what is shared counts as often as it is met; a slice's spare places count too). A statement '..UptoSaid' is the law's where the arguments, and the package variables that the reading takes, are together of bulk at most 1048576: NARROWER than '..Said'. Prove '..Said' where nothing that the law and all that it calls make is longer than what came in: it says more and counts as full. Else prove '..UptoSaid'. A law counts once. -/
mutual
def uptoBulk {H : Type} : DataW H → Nat
  | .lit (.string bytes) => bytes.length + 1
  | .lit _ => 1
  | .nil => 1
  | .ptr d => uptoBulk d + 1
  | .slice elems spare => uptoBulkAll elems + uptoBulkAll spare + 1
  | .agg parts => uptoBulkAll parts + 1
  | .iface _ d => uptoBulk d + 1
  | .map entries => uptoBulkEntries entries + 1
  | .held _ => 1
def uptoBulkAll {H : Type} : List (DataW H) → Nat
  | [] => 0
  | d :: r => uptoBulk d + uptoBulkAll r
def uptoBulkEntries {H : Type} : List (Lit × DataW H) → Nat
  | [] => 0
  | x :: r => uptoBulkEntry x + uptoBulkEntries r
def uptoBulkEntry {H : Type} : Lit × DataW H → Nat
  | (.string bytes, d) => bytes.length + uptoBulk d + 1
  | (_, d) => uptoBulk d + 1
 end
def uptoSmall : (H : Type) → List (DataW H) → Bool := fun _ ds => decide (uptoBulkAll ds ≤ 1048576)
def OpenSpec.upto (s : _root_.Go.ChangeSpec) : _root_.Go.OpenSpec := { _root_.Go.OpenSpec.ofChange s with cond := some uptoSmall }

/-- 'haymowlaw44.LoadChurns', WHERE WHAT IT READS IS OF BULK AT MOST 1048576: true; the input reads as it did. -/
def loadChurnsUptoRow : OpenClaim := { program := "ytjfblnpolgoojaa", sum := "e0242b6b519b8d358d28eb9679d4565eb2edb5c2165c94057d95437c3ac4f187", func := "haymow/haymowlaw44.LoadChurns", spec := "loadChurns", apart := false, narrowed := true }
def LoadChurnsUptoSaid : Prop := loadChurnsUptoRow.holds Try.pinned (OpenSpec.upto loadChurnsSpec)

/-- 'haymowlaw44.LoadScripts', WHERE WHAT IT READS IS OF BULK AT MOST 1048576: true; the input reads as it did. -/
def loadScriptsUptoRow : OpenClaim := { program := "ytjfblnpolgoojaa", sum := "e0242b6b519b8d358d28eb9679d4565eb2edb5c2165c94057d95437c3ac4f187", func := "haymow/haymowlaw44.LoadScripts", spec := "loadScripts", recurses := true, apart := false, narrowed := true }
def LoadScriptsUptoSaid : Prop := loadScriptsUptoRow.holds Try.pinned (OpenSpec.upto loadScriptsSpec)

/-- 'haymowlaw47.DiffBack', WHERE WHAT IT READS IS OF BULK AT MOST 1048576: true; the input reads as it did. -/
def diffBackUptoRow : OpenClaim := { program := "ytjfblnpolgoojaa", sum := "e0242b6b519b8d358d28eb9679d4565eb2edb5c2165c94057d95437c3ac4f187", func := "haymow/haymowlaw47.DiffBack", spec := "diffBack", unfollowed := true, recurses := true, apart := false, narrowed := true }
def DiffBackUptoSaid : Prop := diffBackUptoRow.holds Try.pinned (OpenSpec.upto diffBackSpec)

/-- 'haymowlaw08.MemCloses', WHERE WHAT IT READS IS OF BULK AT MOST 1048576: true; the input reads as it did. -/
def memClosesUptoRow : OpenClaim := { program := "ytjfblnpolgoojaa", sum := "e0242b6b519b8d358d28eb9679d4565eb2edb5c2165c94057d95437c3ac4f187", func := "haymow/haymowlaw08.MemCloses", spec := "memCloses", inPlace := ["math/bits.Add64"], apart := false, narrowed := true }
def MemClosesUptoSaid : Prop := memClosesUptoRow.holds Try.pinned (OpenSpec.upto memClosesSpec)

/-- 'haymowlaw08.MemHolds', WHERE WHAT IT READS IS OF BULK AT MOST 1048576: true; the input reads as it did. -/
def memHoldsUptoRow : OpenClaim := { program := "ytjfblnpolgoojaa", sum := "e0242b6b519b8d358d28eb9679d4565eb2edb5c2165c94057d95437c3ac4f187", func := "haymow/haymowlaw08.MemHolds", spec := "memHolds", inPlace := ["math/bits.Add64"], apart := false, narrowed := true }
def MemHoldsUptoSaid : Prop := memHoldsUptoRow.holds Try.pinned (OpenSpec.upto memHoldsSpec)

/-- 'haymowlaw14.SemiTakes', WHERE WHAT IT READS IS OF BULK AT MOST 1048576: true; the input reads as it did. -/
def semiTakesUptoRow : OpenClaim := { program := "ytjfblnpolgoojaa", sum := "e0242b6b519b8d358d28eb9679d4565eb2edb5c2165c94057d95437c3ac4f187", func := "haymow/haymowlaw14.SemiTakes", spec := "semiTakes", inPlace := ["math/bits.Add64"], apart := false, narrowed := true }
def SemiTakesUptoSaid : Prop := semiTakesUptoRow.holds Try.pinned (OpenSpec.upto semiTakesSpec)

/-- 'haymowlaw08.MemPlays', WHERE WHAT IT READS IS OF BULK AT MOST 1048576: true; the input reads as it did. -/
def memPlaysUptoRow : OpenClaim := { program := "ytjfblnpolgoojaa", sum := "e0242b6b519b8d358d28eb9679d4565eb2edb5c2165c94057d95437c3ac4f187", func := "haymow/haymowlaw08.MemPlays", spec := "memPlays", inPlace := ["math/bits.Add64"], apart := false, narrowed := true }
def MemPlaysUptoSaid : Prop := memPlaysUptoRow.holds Try.pinned (OpenSpec.upto memPlaysSpec)

/-- 'haymowlaw17.FramesStay', WHERE WHAT IT READS IS OF BULK AT MOST 1048576: true; the input reads as it did. -/
def framesStayUptoRow : OpenClaim := { program := "ytjfblnpolgoojaa", sum := "e0242b6b519b8d358d28eb9679d4565eb2edb5c2165c94057d95437c3ac4f187", func := "haymow/haymowlaw17.FramesStay", spec := "framesStay", inPlace := ["math/bits.Add64"], apart := false, narrowed := true }
def FramesStayUptoSaid : Prop := framesStayUptoRow.holds Try.pinned (OpenSpec.upto framesStaySpec)

/-- 'haymowlaw10.PoolFresh', WHERE WHAT IT READS IS OF BULK AT MOST 1048576: true; the input reads as it did. -/
def poolFreshUptoRow : OpenClaim := { program := "ytjfblnpolgoojaa", sum := "e0242b6b519b8d358d28eb9679d4565eb2edb5c2165c94057d95437c3ac4f187", func := "haymow/haymowlaw10.PoolFresh", spec := "poolFresh", inPlace := ["math/bits.Add64"], apart := false, narrowed := true }
def PoolFreshUptoSaid : Prop := poolFreshUptoRow.holds Try.pinned (OpenSpec.upto poolFreshSpec)

/-- 'haymowlaw14.SemiTurns', WHERE WHAT IT READS IS OF BULK AT MOST 1048576: true; the input reads as it did. -/
def semiTurnsUptoRow : OpenClaim := { program := "ytjfblnpolgoojaa", sum := "e0242b6b519b8d358d28eb9679d4565eb2edb5c2165c94057d95437c3ac4f187", func := "haymow/haymowlaw14.SemiTurns", spec := "semiTurns", inPlace := ["math/bits.Add64"], apart := false, narrowed := true }
def SemiTurnsUptoSaid : Prop := semiTurnsUptoRow.holds Try.pinned (OpenSpec.upto semiTurnsSpec)

/-- 'haymowlaw10.PoolPlays', WHERE WHAT IT READS IS OF BULK AT MOST 1048576: true; the input reads as it did. -/
def poolPlaysUptoRow : OpenClaim := { program := "ytjfblnpolgoojaa", sum := "e0242b6b519b8d358d28eb9679d4565eb2edb5c2165c94057d95437c3ac4f187", func := "haymow/haymowlaw10.PoolPlays", spec := "poolPlays", inPlace := ["math/bits.Add64", "math/bits.Sub64"], apart := false, narrowed := true }
def PoolPlaysUptoSaid : Prop := poolPlaysUptoRow.holds Try.pinned (OpenSpec.upto poolPlaysSpec)

/-- 'haymowlaw10.PoolLinks', WHERE WHAT IT READS IS OF BULK AT MOST 1048576: true; the input reads as it did. -/
def poolLinksUptoRow : OpenClaim := { program := "ytjfblnpolgoojaa", sum := "e0242b6b519b8d358d28eb9679d4565eb2edb5c2165c94057d95437c3ac4f187", func := "haymow/haymowlaw10.PoolLinks", spec := "poolLinks", inPlace := ["math/bits.Add64"], unfollowed := true, recurses := true, apart := false, narrowed := true }
def PoolLinksUptoSaid : Prop := poolLinksUptoRow.holds Try.pinned (OpenSpec.upto poolLinksSpec)

end Rows
end Go.Proofs.Ytjfblnpolgoojaa
