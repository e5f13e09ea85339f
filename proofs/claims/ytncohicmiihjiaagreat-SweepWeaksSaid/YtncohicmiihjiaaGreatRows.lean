/-
  No cell of these rows narrows 'for every input' (looked for: loops, veiled, ifaces, maps, wideKeys, modest, calm, conditions, laid).
  DERIVED. THE GIVEN ROWS OF THIS SEAT. 5 by the template 'for every input the law returns true; each argument reads behind the call as it read before'; 0 by the template 'total and deterministic' (their statements: YtncohicmiihjiaaGreatTotals.lean).
  GIVEN WITH THE SEED: the statements are not yours to turn. If you find one false, say at which input.
  Laid BY PROGRAM, IN A SANDBOX (cutbox-rows.mjs): the forced cells as the released guide's own fill.sh prints them over the translation 683c4db246f8b1bd… (all of the seat's roots in one cut). By AI agents, Wed Nov 11 2026. No macro, syntax, notation, axiom, sorry.
-/
import Derived.Test.YtncohicmiihjiaaGreatChecked
import GoSem.Claim
import GoSem.ClaimJoined
import GoSem.ClaimMapViews
import Derived.JoinedTies
import Derived.KernelRfl
namespace Go.Proofs.YtncohicmiihjiaaGreat
/- THE CELL 'sum', in the pinned program and in every row, IS THE sha256 OF THE DUMP (.gsa) THAT YtncohicmiihjiaaGreatProg.lean LOADS. Nothing in Lean hashes anything: it is a label: what it is worth is what the hold of that sum in a sandbox is worth. -/
noncomputable def Tryz.pinned : Pinned := { name := "ytncohicmiihjiaagreat", sum := "683c4db246f8b1bd2142c810f64adbfe891b099818d24be2634b88b29fe47003", checked := Tryz.checked }
namespace Rows
def none {H : Type} : Left H := { results := [], args := [] }

/-- 'haymowlaw20.EvacApart': WHATEVER THE INPUT: true; the input reads as it did. -/
def evacApartSpec : ChangeSpec := { name := "evacApart", fn := fun _ => fun
  | [d1, d2] => { results := [.lit (.bool true)], args := [d1, d2] }
  | _ => none }
def evacApartRow : OpenClaim := { program := "ytncohicmiihjiaagreat", sum := "683c4db246f8b1bd2142c810f64adbfe891b099818d24be2634b88b29fe47003", func := "haymow/haymowlaw20.EvacApart", spec := "evacApart", inPlace := ["math/bits.Add64"], unfollowed := true, recurses := true, apart := false }
def EvacApartSaid : Prop := evacApartRow.holds Tryz.pinned (OpenSpec.ofChange evacApartSpec)

/-- ITS FALSE NEIGHBOUR: 'it returns false'. Refute it at one input. -/
def evacApartWrong : ChangeSpec := { name := "evacApart", fn := fun _ => fun
  | [d1, d2] => { results := [.lit (.bool false)], args := [d1, d2] }
  | _ => none }
def EvacApartWrongFalsely : Prop := evacApartRow.holds Tryz.pinned (OpenSpec.ofChange evacApartWrong)

/-- 'haymowlaw20.EvacMoves': WHATEVER THE INPUT: true; the input reads as it did. -/
def evacMovesSpec : ChangeSpec := { name := "evacMoves", fn := fun _ => fun
  | [d1, d2] => { results := [.lit (.bool true)], args := [d1, d2] }
  | _ => none }
def evacMovesRow : OpenClaim := { program := "ytncohicmiihjiaagreat", sum := "683c4db246f8b1bd2142c810f64adbfe891b099818d24be2634b88b29fe47003", func := "haymow/haymowlaw20.EvacMoves", spec := "evacMoves", inPlace := ["math/bits.Add64", "math/bits.Sub64"], unfollowed := true, recurses := true, apart := false }
def EvacMovesSaid : Prop := evacMovesRow.holds Tryz.pinned (OpenSpec.ofChange evacMovesSpec)

/-- ITS FALSE NEIGHBOUR: 'it returns false'. Refute it at one input. -/
def evacMovesWrong : ChangeSpec := { name := "evacMoves", fn := fun _ => fun
  | [d1, d2] => { results := [.lit (.bool false)], args := [d1, d2] }
  | _ => none }
def EvacMovesWrongFalsely : Prop := evacMovesRow.holds Tryz.pinned (OpenSpec.ofChange evacMovesWrong)

/-- 'haymowlaw20.EvacSteps': WHATEVER THE INPUT: true; the input reads as it did. -/
def evacStepsSpec : ChangeSpec := { name := "evacSteps", fn := fun _ => fun
  | [d1, d2] => { results := [.lit (.bool true)], args := [d1, d2] }
  | _ => none }
def evacStepsRow : OpenClaim := { program := "ytncohicmiihjiaagreat", sum := "683c4db246f8b1bd2142c810f64adbfe891b099818d24be2634b88b29fe47003", func := "haymow/haymowlaw20.EvacSteps", spec := "evacSteps", inPlace := ["math/bits.Add64", "math/bits.Sub64"], unfollowed := true, recurses := true, apart := false }
def EvacStepsSaid : Prop := evacStepsRow.holds Tryz.pinned (OpenSpec.ofChange evacStepsSpec)

/-- ITS FALSE NEIGHBOUR: 'it returns false'. Refute it at one input. -/
def evacStepsWrong : ChangeSpec := { name := "evacSteps", fn := fun _ => fun
  | [d1, d2] => { results := [.lit (.bool false)], args := [d1, d2] }
  | _ => none }
def EvacStepsWrongFalsely : Prop := evacStepsRow.holds Tryz.pinned (OpenSpec.ofChange evacStepsWrong)

/-- 'haymowlaw22.SweepRests': WHATEVER THE INPUT: true; the input reads as it did. -/
def sweepRestsSpec : ChangeSpec := { name := "sweepRests", fn := fun _ => fun
  | [d] => { results := [.lit (.bool true)], args := [d] }
  | _ => none }
def sweepRestsRow : OpenClaim := { program := "ytncohicmiihjiaagreat", sum := "683c4db246f8b1bd2142c810f64adbfe891b099818d24be2634b88b29fe47003", func := "haymow/haymowlaw22.SweepRests", spec := "sweepRests", inPlace := ["math/bits.Add64", "math/bits.Sub64"], unfollowed := true, recurses := true, apart := false }
def SweepRestsSaid : Prop := sweepRestsRow.holds Tryz.pinned (OpenSpec.ofChange sweepRestsSpec)

/-- ITS FALSE NEIGHBOUR: 'it returns false'. Refute it at one input. -/
def sweepRestsWrong : ChangeSpec := { name := "sweepRests", fn := fun _ => fun
  | [d] => { results := [.lit (.bool false)], args := [d] }
  | _ => none }
def SweepRestsWrongFalsely : Prop := sweepRestsRow.holds Tryz.pinned (OpenSpec.ofChange sweepRestsWrong)

/-- 'haymowlaw22.SweepWeaks': WHATEVER THE INPUT: true; the input reads as it did. -/
def sweepWeaksSpec : ChangeSpec := { name := "sweepWeaks", fn := fun _ => fun
  | [d1, d2] => { results := [.lit (.bool true)], args := [d1, d2] }
  | _ => none }
def sweepWeaksRow : OpenClaim := { program := "ytncohicmiihjiaagreat", sum := "683c4db246f8b1bd2142c810f64adbfe891b099818d24be2634b88b29fe47003", func := "haymow/haymowlaw22.SweepWeaks", spec := "sweepWeaks", inPlace := ["math/bits.Add64"], unfollowed := true, recurses := true, apart := false }
def SweepWeaksSaid : Prop := sweepWeaksRow.holds Tryz.pinned (OpenSpec.ofChange sweepWeaksSpec)

/-- ITS FALSE NEIGHBOUR: 'it returns false'. Refute it at one input. -/
def sweepWeaksWrong : ChangeSpec := { name := "sweepWeaks", fn := fun _ => fun
  | [d1, d2] => { results := [.lit (.bool false)], args := [d1, d2] }
  | _ => none }
def SweepWeaksWrongFalsely : Prop := sweepWeaksRow.holds Tryz.pinned (OpenSpec.ofChange sweepWeaksWrong)

/- THE SECOND FORM. 'bulk': how many values and letters a reading holds, each counted each time it is reached (what is shared counts as often as it is met; a slice's spare places count too). A statement '..UptoSaid' is the law's where the arguments, and the package variables that the reading takes, are together of bulk at most 1048576: NARROWER than '..Said'. Prove '..Said' where nothing that the law and all that it calls make is longer than what came in: it says more and counts as full. Else prove '..UptoSaid'. A law counts once. -/
mutual
def uptoBulk {H : Type} : DataW H → Nat
  | .lit (.string bytes) => bytes.length + 1
  | .lit _ => 1
  | .nil => 1
  | .ptr d => uptoBulk d + 1
  | .slice elems spare => uptoBulkAll elems + uptoBulkAll spare + 1
  | .agg parts => uptoBulkAll parts + 1
  | .iface _ d => uptoBulk d + 1
  | .map entries => uptoBulkEntries entries + 1
  | .held _ => 1
def uptoBulkAll {H : Type} : List (DataW H) → Nat
  | [] => 0
  | d :: r => uptoBulk d + uptoBulkAll r
def uptoBulkEntries {H : Type} : List (Lit × DataW H) → Nat
  | [] => 0
  | x :: r => uptoBulkEntry x + uptoBulkEntries r
def uptoBulkEntry {H : Type} : Lit × DataW H → Nat
  | (.string bytes, d) => bytes.length + uptoBulk d + 1
  | (_, d) => uptoBulk d + 1
 end
def uptoSmall : (H : Type) → List (DataW H) → Bool := fun _ ds => decide (uptoBulkAll ds ≤ 1048576)
def OpenSpec.upto (s : _root_.Go.ChangeSpec) : _root_.Go.OpenSpec := { _root_.Go.OpenSpec.ofChange s with cond := some uptoSmall }

/-- 'haymowlaw20.EvacApart', WHERE WHAT IT READS IS OF BULK AT MOST 1048576: true; the input reads as it did. -/
def evacApartUptoRow : OpenClaim := { program := "ytncohicmiihjiaagreat", sum := "683c4db246f8b1bd2142c810f64adbfe891b099818d24be2634b88b29fe47003", func := "haymow/haymowlaw20.EvacApart", spec := "evacApart", inPlace := ["math/bits.Add64"], unfollowed := true, recurses := true, apart := false, narrowed := true }
def EvacApartUptoSaid : Prop := evacApartUptoRow.holds Tryz.pinned (OpenSpec.upto evacApartSpec)

/-- 'haymowlaw20.EvacMoves', WHERE WHAT IT READS IS OF BULK AT MOST 1048576: true; the input reads as it did. -/
def evacMovesUptoRow : OpenClaim := { program := "ytncohicmiihjiaagreat", sum := "683c4db246f8b1bd2142c810f64adbfe891b099818d24be2634b88b29fe47003", func := "haymow/haymowlaw20.EvacMoves", spec := "evacMoves", inPlace := ["math/bits.Add64", "math/bits.Sub64"], unfollowed := true, recurses := true, apart := false, narrowed := true }
def EvacMovesUptoSaid : Prop := evacMovesUptoRow.holds Tryz.pinned (OpenSpec.upto evacMovesSpec)

/-- 'haymowlaw20.EvacSteps', WHERE WHAT IT READS IS OF BULK AT MOST 1048576: true; the input reads as it did. -/
def evacStepsUptoRow : OpenClaim := { program := "ytncohicmiihjiaagreat", sum := "683c4db246f8b1bd2142c810f64adbfe891b099818d24be2634b88b29fe47003", func := "haymow/haymowlaw20.EvacSteps", spec := "evacSteps", inPlace := ["math/bits.Add64", "math/bits.Sub64"], unfollowed := true, recurses := true, apart := false, narrowed := true }
def EvacStepsUptoSaid : Prop := evacStepsUptoRow.holds Tryz.pinned (OpenSpec.upto evacStepsSpec)

/-- 'haymowlaw22.SweepRests', WHERE WHAT IT READS IS OF BULK AT MOST 1048576: true; the input reads as it did. -/
def sweepRestsUptoRow : OpenClaim := { program := "ytncohicmiihjiaagreat", sum := "683c4db246f8b1bd2142c810f64adbfe891b099818d24be2634b88b29fe47003", func := "haymow/haymowlaw22.SweepRests", spec := "sweepRests", inPlace := ["math/bits.Add64", "math/bits.Sub64"], unfollowed := true, recurses := true, apart := false, narrowed := true }
def SweepRestsUptoSaid : Prop := sweepRestsUptoRow.holds Tryz.pinned (OpenSpec.upto sweepRestsSpec)

/-- 'haymowlaw22.SweepWeaks', WHERE WHAT IT READS IS OF BULK AT MOST 1048576: true; the input reads as it did. -/
def sweepWeaksUptoRow : OpenClaim := { program := "ytncohicmiihjiaagreat", sum := "683c4db246f8b1bd2142c810f64adbfe891b099818d24be2634b88b29fe47003", func := "haymow/haymowlaw22.SweepWeaks", spec := "sweepWeaks", inPlace := ["math/bits.Add64"], unfollowed := true, recurses := true, apart := false, narrowed := true }
def SweepWeaksUptoSaid : Prop := sweepWeaksUptoRow.holds Tryz.pinned (OpenSpec.upto sweepWeaksSpec)

end Rows
end Go.Proofs.YtncohicmiihjiaaGreat
