/-
  DERIVED. GIVEN WITH THE SEED: THE CARDS: each row of YtlgnboohmahbaaaGreatDoorRows.lean that lists a variable, with what it lists TIED to the program's text (the seventh form; the later family's looks); each row that meets fmt, with fmt's text TOLD by the authors' own Lean function (tested against real Go, not proved from fmt's source: count such statements apart). THE CARD IS WHAT COUNTS. Prove the row's statement (the work); the ties are given (YtlgnboohmahbaaaGreatDoorTie.lean); close each card by the builder's one call (the guide's Derived/Test/ToyasCard.lean, 'card_holds'). Laid BY PROGRAM, IN A SANDBOX (cutbox-door.mjs). By AI agents, Wed Nov 11 2026. No macro, syntax, notation, axiom, sorry.
-/
import Derived.Test.YtlgnboohmahbaaaGreatDoorRows
import GoSem.ClaimSeven
namespace Go.Proofs.YtlgnboohmahbaaaGreatDoor
namespace Rows

/-- THE TIED CARD OF 'haymowtop.TopWritten'. -/
def topWrittenCard : Claim7 := { stood := { row := topWrittenRow, standIns := [], harness := (true, "e10001f70590097837e555f1c07020f4281e8cec3170305ae8cee01c3fa318c3"), looks := false }, kinds := [], alts := [], laidByText := true, laidKinds := [.data, .pinned], laidTests := true, laidLooks := .later }
def TopWrittenCardSaid : Prop := Claim7.holds Tryz.pinned (.plain (OpenSpec.ofChange topWrittenSpec)) topWrittenCard

/-- THE SECOND FORM's CARD OF 'haymowtop.TopWritten'. -/
def topWrittenUptoCard : Claim7 := { stood := { row := topWrittenUptoRow, standIns := [], harness := (true, "e10001f70590097837e555f1c07020f4281e8cec3170305ae8cee01c3fa318c3"), looks := false }, kinds := [], alts := [], laidByText := true, laidKinds := [.data, .pinned], laidTests := true, laidLooks := .later }
def TopWrittenUptoCardSaid : Prop := Claim7.holds Tryz.pinned (.plain (OpenSpec.upto topWrittenSpec)) topWrittenUptoCard
end Rows
end Go.Proofs.YtlgnboohmahbaaaGreatDoor
