/-
  No cell of these rows narrows 'for every input' (looked for: loops, veiled, ifaces, maps, wideKeys, modest, calm, conditions, laid).
  DERIVED. THE GIVEN ROWS OF THIS SEAT. 11 by the template 'for every input the law returns true; each argument reads behind the call as it read before'; 0 by the template 'total and deterministic' (their statements: YtdbnoocdpbkkpaaTotals.lean).
  GIVEN WITH THE SEED: the statements are not yours to turn. If you find one false, say at which input.
  Laid BY PROGRAM, IN A SANDBOX (cutbox-rows.mjs): the forced cells as the released guide's own fill.sh prints them over the translation ef83bb4807e0af0e… (all of the seat's roots in one cut). By AI agents, Wed Nov 11 2026. No macro, syntax, notation, axiom, sorry.
-/
import Derived.Test.YtdbnoocdpbkkpaaChecked
import GoSem.Claim
import GoSem.ClaimJoined
import GoSem.ClaimMapViews
import Derived.JoinedTies
import Derived.KernelRfl
namespace Go.Proofs.Ytdbnoocdpbkkpaa
/- THE CELL 'sum', in the pinned program and in every row, IS THE sha256 OF THE DUMP (.gsa) THAT YtdbnoocdpbkkpaaProg.lean LOADS. Nothing in Lean hashes anything: it is a label: what it is worth is what the hold of that sum in a sandbox is worth. -/
noncomputable def Try.pinned : Pinned := { name := "ytdbnoocdpbkkpaa", sum := "ef83bb4807e0af0ec06efde4c3204e72726f3eae218846b433e7076d7757816f", checked := Try.checked }
namespace Rows
def none {H : Type} : Left H := { results := [], args := [] }

/-- 'haymowlaw05.VarintZigs': WHATEVER THE INPUT: true; the input reads as it did. -/
def varintZigsSpec : ChangeSpec := { name := "varintZigs", fn := fun _ => fun
  | [d1, d2] => { results := [.lit (.bool true)], args := [d1, d2] }
  | _ => none }
def varintZigsRow : OpenClaim := { program := "ytdbnoocdpbkkpaa", sum := "ef83bb4807e0af0ec06efde4c3204e72726f3eae218846b433e7076d7757816f", func := "haymow/haymowlaw05.VarintZigs", spec := "varintZigs", apart := false }
def VarintZigsSaid : Prop := varintZigsRow.holds Try.pinned (OpenSpec.ofChange varintZigsSpec)

/-- ITS FALSE NEIGHBOUR: 'it returns false'. Refute it at one input. -/
def varintZigsWrong : ChangeSpec := { name := "varintZigs", fn := fun _ => fun
  | [d1, d2] => { results := [.lit (.bool false)], args := [d1, d2] }
  | _ => none }
def VarintZigsWrongFalsely : Prop := varintZigsRow.holds Try.pinned (OpenSpec.ofChange varintZigsWrong)

/-- 'haymowlaw11.RefApart': WHATEVER THE INPUT: true; the input reads as it did. -/
def refApartSpec : ChangeSpec := { name := "refApart", fn := fun _ => fun
  | [d1, d2] => { results := [.lit (.bool true)], args := [d1, d2] }
  | _ => none }
def refApartRow : OpenClaim := { program := "ytdbnoocdpbkkpaa", sum := "ef83bb4807e0af0ec06efde4c3204e72726f3eae218846b433e7076d7757816f", func := "haymow/haymowlaw11.RefApart", spec := "refApart", apart := false }
def RefApartSaid : Prop := refApartRow.holds Try.pinned (OpenSpec.ofChange refApartSpec)

/-- ITS FALSE NEIGHBOUR: 'it returns false'. Refute it at one input. -/
def refApartWrong : ChangeSpec := { name := "refApart", fn := fun _ => fun
  | [d1, d2] => { results := [.lit (.bool false)], args := [d1, d2] }
  | _ => none }
def RefApartWrongFalsely : Prop := refApartRow.holds Try.pinned (OpenSpec.ofChange refApartWrong)

/-- 'haymowlaw06.CrcSums': WHATEVER THE INPUT: true; the input reads as it did. -/
def crcSumsSpec : ChangeSpec := { name := "crcSums", fn := fun _ => fun
  | [d1, d2, d3] => { results := [.lit (.bool true)], args := [d1, d2, d3] }
  | _ => none }
def crcSumsRow : OpenClaim := { program := "ytdbnoocdpbkkpaa", sum := "ef83bb4807e0af0ec06efde4c3204e72726f3eae218846b433e7076d7757816f", func := "haymow/haymowlaw06.CrcSums", spec := "crcSums", apart := false }
def CrcSumsSaid : Prop := crcSumsRow.holds Try.pinned (OpenSpec.ofChange crcSumsSpec)

/-- ITS FALSE NEIGHBOUR: 'it returns false'. Refute it at one input. -/
def crcSumsWrong : ChangeSpec := { name := "crcSums", fn := fun _ => fun
  | [d1, d2, d3] => { results := [.lit (.bool false)], args := [d1, d2, d3] }
  | _ => none }
def CrcSumsWrongFalsely : Prop := crcSumsRow.holds Try.pinned (OpenSpec.ofChange crcSumsWrong)

/-- 'haymowlaw06.CrcLays': WHATEVER THE INPUT: true; the input reads as it did. -/
def crcLaysSpec : ChangeSpec := { name := "crcLays", fn := fun _ => fun
  | [d1, d2] => { results := [.lit (.bool true)], args := [d1, d2] }
  | _ => none }
def crcLaysRow : OpenClaim := { program := "ytdbnoocdpbkkpaa", sum := "ef83bb4807e0af0ec06efde4c3204e72726f3eae218846b433e7076d7757816f", func := "haymow/haymowlaw06.CrcLays", spec := "crcLays", apart := false }
def CrcLaysSaid : Prop := crcLaysRow.holds Try.pinned (OpenSpec.ofChange crcLaysSpec)

/-- ITS FALSE NEIGHBOUR: 'it returns false'. Refute it at one input. -/
def crcLaysWrong : ChangeSpec := { name := "crcLays", fn := fun _ => fun
  | [d1, d2] => { results := [.lit (.bool false)], args := [d1, d2] }
  | _ => none }
def CrcLaysWrongFalsely : Prop := crcLaysRow.holds Try.pinned (OpenSpec.ofChange crcLaysWrong)

/-- 'haymowlaw11.RefMakes': WHATEVER THE INPUT: true; the input reads as it did. -/
def refMakesSpec : ChangeSpec := { name := "refMakes", fn := fun _ => fun
  | [d] => { results := [.lit (.bool true)], args := [d] }
  | _ => none }
def refMakesRow : OpenClaim := { program := "ytdbnoocdpbkkpaa", sum := "ef83bb4807e0af0ec06efde4c3204e72726f3eae218846b433e7076d7757816f", func := "haymow/haymowlaw11.RefMakes", spec := "refMakes", apart := false }
def RefMakesSaid : Prop := refMakesRow.holds Try.pinned (OpenSpec.ofChange refMakesSpec)

/-- ITS FALSE NEIGHBOUR: 'it returns false'. Refute it at one input. -/
def refMakesWrong : ChangeSpec := { name := "refMakes", fn := fun _ => fun
  | [d] => { results := [.lit (.bool false)], args := [d] }
  | _ => none }
def RefMakesWrongFalsely : Prop := refMakesRow.holds Try.pinned (OpenSpec.ofChange refMakesWrong)

/-- 'haymowlaw05.VarintWords': WHATEVER THE INPUT: true; the input reads as it did. -/
def varintWordsSpec : ChangeSpec := { name := "varintWords", fn := fun _ => fun
  | [d1, d2, d3] => { results := [.lit (.bool true)], args := [d1, d2, d3] }
  | _ => none }
def varintWordsRow : OpenClaim := { program := "ytdbnoocdpbkkpaa", sum := "ef83bb4807e0af0ec06efde4c3204e72726f3eae218846b433e7076d7757816f", func := "haymow/haymowlaw05.VarintWords", spec := "varintWords", apart := false }
def VarintWordsSaid : Prop := varintWordsRow.holds Try.pinned (OpenSpec.ofChange varintWordsSpec)

/-- ITS FALSE NEIGHBOUR: 'it returns false'. Refute it at one input. -/
def varintWordsWrong : ChangeSpec := { name := "varintWords", fn := fun _ => fun
  | [d1, d2, d3] => { results := [.lit (.bool false)], args := [d1, d2, d3] }
  | _ => none }
def VarintWordsWrongFalsely : Prop := varintWordsRow.holds Try.pinned (OpenSpec.ofChange varintWordsWrong)

/-- 'haymowlaw11.RefReads': WHATEVER THE INPUT: true; the input reads as it did. -/
def refReadsSpec : ChangeSpec := { name := "refReads", fn := fun _ => fun
  | [d] => { results := [.lit (.bool true)], args := [d] }
  | _ => none }
def refReadsRow : OpenClaim := { program := "ytdbnoocdpbkkpaa", sum := "ef83bb4807e0af0ec06efde4c3204e72726f3eae218846b433e7076d7757816f", func := "haymow/haymowlaw11.RefReads", spec := "refReads", apart := false }
def RefReadsSaid : Prop := refReadsRow.holds Try.pinned (OpenSpec.ofChange refReadsSpec)

/-- ITS FALSE NEIGHBOUR: 'it returns false'. Refute it at one input. -/
def refReadsWrong : ChangeSpec := { name := "refReads", fn := fun _ => fun
  | [d] => { results := [.lit (.bool false)], args := [d] }
  | _ => none }
def RefReadsWrongFalsely : Prop := refReadsRow.holds Try.pinned (OpenSpec.ofChange refReadsWrong)

/-- 'haymowlaw06.CrcSeals': WHATEVER THE INPUT: true; the input reads as it did. -/
def crcSealsSpec : ChangeSpec := { name := "crcSeals", fn := fun _ => fun
  | [d1, d2] => { results := [.lit (.bool true)], args := [d1, d2] }
  | _ => none }
def crcSealsRow : OpenClaim := { program := "ytdbnoocdpbkkpaa", sum := "ef83bb4807e0af0ec06efde4c3204e72726f3eae218846b433e7076d7757816f", func := "haymow/haymowlaw06.CrcSeals", spec := "crcSeals", apart := false }
def CrcSealsSaid : Prop := crcSealsRow.holds Try.pinned (OpenSpec.ofChange crcSealsSpec)

/-- ITS FALSE NEIGHBOUR: 'it returns false'. Refute it at one input. -/
def crcSealsWrong : ChangeSpec := { name := "crcSeals", fn := fun _ => fun
  | [d1, d2] => { results := [.lit (.bool false)], args := [d1, d2] }
  | _ => none }
def CrcSealsWrongFalsely : Prop := crcSealsRow.holds Try.pinned (OpenSpec.ofChange crcSealsWrong)

/-- 'haymowlaw06.CrcBursts': WHATEVER THE INPUT: true; the input reads as it did. -/
def crcBurstsSpec : ChangeSpec := { name := "crcBursts", fn := fun _ => fun
  | [d1, d2, d3] => { results := [.lit (.bool true)], args := [d1, d2, d3] }
  | _ => none }
def crcBurstsRow : OpenClaim := { program := "ytdbnoocdpbkkpaa", sum := "ef83bb4807e0af0ec06efde4c3204e72726f3eae218846b433e7076d7757816f", func := "haymow/haymowlaw06.CrcBursts", spec := "crcBursts", apart := false }
def CrcBurstsSaid : Prop := crcBurstsRow.holds Try.pinned (OpenSpec.ofChange crcBurstsSpec)

/-- ITS FALSE NEIGHBOUR: 'it returns false'. Refute it at one input. -/
def crcBurstsWrong : ChangeSpec := { name := "crcBursts", fn := fun _ => fun
  | [d1, d2, d3] => { results := [.lit (.bool false)], args := [d1, d2, d3] }
  | _ => none }
def CrcBurstsWrongFalsely : Prop := crcBurstsRow.holds Try.pinned (OpenSpec.ofChange crcBurstsWrong)

/-- 'haymowlaw05.VarintReads': WHATEVER THE INPUT: true; the input reads as it did. -/
def varintReadsSpec : ChangeSpec := { name := "varintReads", fn := fun _ => fun
  | [d] => { results := [.lit (.bool true)], args := [d] }
  | _ => none }
def varintReadsRow : OpenClaim := { program := "ytdbnoocdpbkkpaa", sum := "ef83bb4807e0af0ec06efde4c3204e72726f3eae218846b433e7076d7757816f", func := "haymow/haymowlaw05.VarintReads", spec := "varintReads", apart := false }
def VarintReadsSaid : Prop := varintReadsRow.holds Try.pinned (OpenSpec.ofChange varintReadsSpec)

/-- ITS FALSE NEIGHBOUR: 'it returns false'. Refute it at one input. -/
def varintReadsWrong : ChangeSpec := { name := "varintReads", fn := fun _ => fun
  | [d] => { results := [.lit (.bool false)], args := [d] }
  | _ => none }
def VarintReadsWrongFalsely : Prop := varintReadsRow.holds Try.pinned (OpenSpec.ofChange varintReadsWrong)

/-- 'haymowlaw05.VarintLists': WHATEVER THE INPUT: true; the input reads as it did. -/
def varintListsSpec : ChangeSpec := { name := "varintLists", fn := fun _ => fun
  | [d] => { results := [.lit (.bool true)], args := [d] }
  | _ => none }
def varintListsRow : OpenClaim := { program := "ytdbnoocdpbkkpaa", sum := "ef83bb4807e0af0ec06efde4c3204e72726f3eae218846b433e7076d7757816f", func := "haymow/haymowlaw05.VarintLists", spec := "varintLists", apart := false }
def VarintListsSaid : Prop := varintListsRow.holds Try.pinned (OpenSpec.ofChange varintListsSpec)

/-- ITS FALSE NEIGHBOUR: 'it returns false'. Refute it at one input. -/
def varintListsWrong : ChangeSpec := { name := "varintLists", fn := fun _ => fun
  | [d] => { results := [.lit (.bool false)], args := [d] }
  | _ => none }
def VarintListsWrongFalsely : Prop := varintListsRow.holds Try.pinned (OpenSpec.ofChange varintListsWrong)

/- THE SECOND FORM. 'bulk': how many values and letters a reading holds, each counted each time it is reached (what is shared counts as often as it is met; a slice's spare places count too). A statement '..UptoSaid' is the law's where the arguments, and the package variables that the reading takes, are together of bulk at most 1048576: NARROWER than '..Said'. Prove '..Said' where nothing that the law and all that it calls make is longer than what came in: it says more and counts as full. Else prove '..UptoSaid'. A law counts once. -/
mutual
def uptoBulk {H : Type} : DataW H → Nat
  | .lit (.string bytes) => bytes.length + 1
  | .lit _ => 1
  | .nil => 1
  | .ptr d => uptoBulk d + 1
  | .slice elems spare => uptoBulkAll elems + uptoBulkAll spare + 1
  | .agg parts => uptoBulkAll parts + 1
  | .iface _ d => uptoBulk d + 1
  | .map entries => uptoBulkEntries entries + 1
  | .held _ => 1
def uptoBulkAll {H : Type} : List (DataW H) → Nat
  | [] => 0
  | d :: r => uptoBulk d + uptoBulkAll r
def uptoBulkEntries {H : Type} : List (Lit × DataW H) → Nat
  | [] => 0
  | x :: r => uptoBulkEntry x + uptoBulkEntries r
def uptoBulkEntry {H : Type} : Lit × DataW H → Nat
  | (.string bytes, d) => bytes.length + uptoBulk d + 1
  | (_, d) => uptoBulk d + 1
 end
def uptoSmall : (H : Type) → List (DataW H) → Bool := fun _ ds => decide (uptoBulkAll ds ≤ 1048576)
def OpenSpec.upto (s : _root_.Go.ChangeSpec) : _root_.Go.OpenSpec := { _root_.Go.OpenSpec.ofChange s with cond := some uptoSmall }

/-- 'haymowlaw05.VarintZigs', WHERE WHAT IT READS IS OF BULK AT MOST 1048576: true; the input reads as it did. -/
def varintZigsUptoRow : OpenClaim := { program := "ytdbnoocdpbkkpaa", sum := "ef83bb4807e0af0ec06efde4c3204e72726f3eae218846b433e7076d7757816f", func := "haymow/haymowlaw05.VarintZigs", spec := "varintZigs", apart := false, narrowed := true }
def VarintZigsUptoSaid : Prop := varintZigsUptoRow.holds Try.pinned (OpenSpec.upto varintZigsSpec)

/-- 'haymowlaw11.RefApart', WHERE WHAT IT READS IS OF BULK AT MOST 1048576: true; the input reads as it did. -/
def refApartUptoRow : OpenClaim := { program := "ytdbnoocdpbkkpaa", sum := "ef83bb4807e0af0ec06efde4c3204e72726f3eae218846b433e7076d7757816f", func := "haymow/haymowlaw11.RefApart", spec := "refApart", apart := false, narrowed := true }
def RefApartUptoSaid : Prop := refApartUptoRow.holds Try.pinned (OpenSpec.upto refApartSpec)

/-- 'haymowlaw06.CrcSums', WHERE WHAT IT READS IS OF BULK AT MOST 1048576: true; the input reads as it did. -/
def crcSumsUptoRow : OpenClaim := { program := "ytdbnoocdpbkkpaa", sum := "ef83bb4807e0af0ec06efde4c3204e72726f3eae218846b433e7076d7757816f", func := "haymow/haymowlaw06.CrcSums", spec := "crcSums", apart := false, narrowed := true }
def CrcSumsUptoSaid : Prop := crcSumsUptoRow.holds Try.pinned (OpenSpec.upto crcSumsSpec)

/-- 'haymowlaw06.CrcLays', WHERE WHAT IT READS IS OF BULK AT MOST 1048576: true; the input reads as it did. -/
def crcLaysUptoRow : OpenClaim := { program := "ytdbnoocdpbkkpaa", sum := "ef83bb4807e0af0ec06efde4c3204e72726f3eae218846b433e7076d7757816f", func := "haymow/haymowlaw06.CrcLays", spec := "crcLays", apart := false, narrowed := true }
def CrcLaysUptoSaid : Prop := crcLaysUptoRow.holds Try.pinned (OpenSpec.upto crcLaysSpec)

/-- 'haymowlaw11.RefMakes', WHERE WHAT IT READS IS OF BULK AT MOST 1048576: true; the input reads as it did. -/
def refMakesUptoRow : OpenClaim := { program := "ytdbnoocdpbkkpaa", sum := "ef83bb4807e0af0ec06efde4c3204e72726f3eae218846b433e7076d7757816f", func := "haymow/haymowlaw11.RefMakes", spec := "refMakes", apart := false, narrowed := true }
def RefMakesUptoSaid : Prop := refMakesUptoRow.holds Try.pinned (OpenSpec.upto refMakesSpec)

/-- 'haymowlaw05.VarintWords', WHERE WHAT IT READS IS OF BULK AT MOST 1048576: true; the input reads as it did. -/
def varintWordsUptoRow : OpenClaim := { program := "ytdbnoocdpbkkpaa", sum := "ef83bb4807e0af0ec06efde4c3204e72726f3eae218846b433e7076d7757816f", func := "haymow/haymowlaw05.VarintWords", spec := "varintWords", apart := false, narrowed := true }
def VarintWordsUptoSaid : Prop := varintWordsUptoRow.holds Try.pinned (OpenSpec.upto varintWordsSpec)

/-- 'haymowlaw11.RefReads', WHERE WHAT IT READS IS OF BULK AT MOST 1048576: true; the input reads as it did. -/
def refReadsUptoRow : OpenClaim := { program := "ytdbnoocdpbkkpaa", sum := "ef83bb4807e0af0ec06efde4c3204e72726f3eae218846b433e7076d7757816f", func := "haymow/haymowlaw11.RefReads", spec := "refReads", apart := false, narrowed := true }
def RefReadsUptoSaid : Prop := refReadsUptoRow.holds Try.pinned (OpenSpec.upto refReadsSpec)

/-- 'haymowlaw06.CrcSeals', WHERE WHAT IT READS IS OF BULK AT MOST 1048576: true; the input reads as it did. -/
def crcSealsUptoRow : OpenClaim := { program := "ytdbnoocdpbkkpaa", sum := "ef83bb4807e0af0ec06efde4c3204e72726f3eae218846b433e7076d7757816f", func := "haymow/haymowlaw06.CrcSeals", spec := "crcSeals", apart := false, narrowed := true }
def CrcSealsUptoSaid : Prop := crcSealsUptoRow.holds Try.pinned (OpenSpec.upto crcSealsSpec)

/-- 'haymowlaw06.CrcBursts', WHERE WHAT IT READS IS OF BULK AT MOST 1048576: true; the input reads as it did. -/
def crcBurstsUptoRow : OpenClaim := { program := "ytdbnoocdpbkkpaa", sum := "ef83bb4807e0af0ec06efde4c3204e72726f3eae218846b433e7076d7757816f", func := "haymow/haymowlaw06.CrcBursts", spec := "crcBursts", apart := false, narrowed := true }
def CrcBurstsUptoSaid : Prop := crcBurstsUptoRow.holds Try.pinned (OpenSpec.upto crcBurstsSpec)

/-- 'haymowlaw05.VarintReads', WHERE WHAT IT READS IS OF BULK AT MOST 1048576: true; the input reads as it did. -/
def varintReadsUptoRow : OpenClaim := { program := "ytdbnoocdpbkkpaa", sum := "ef83bb4807e0af0ec06efde4c3204e72726f3eae218846b433e7076d7757816f", func := "haymow/haymowlaw05.VarintReads", spec := "varintReads", apart := false, narrowed := true }
def VarintReadsUptoSaid : Prop := varintReadsUptoRow.holds Try.pinned (OpenSpec.upto varintReadsSpec)

/-- 'haymowlaw05.VarintLists', WHERE WHAT IT READS IS OF BULK AT MOST 1048576: true; the input reads as it did. -/
def varintListsUptoRow : OpenClaim := { program := "ytdbnoocdpbkkpaa", sum := "ef83bb4807e0af0ec06efde4c3204e72726f3eae218846b433e7076d7757816f", func := "haymow/haymowlaw05.VarintLists", spec := "varintLists", apart := false, narrowed := true }
def VarintListsUptoSaid : Prop := varintListsUptoRow.holds Try.pinned (OpenSpec.upto varintListsSpec)

end Rows
end Go.Proofs.Ytdbnoocdpbkkpaa
