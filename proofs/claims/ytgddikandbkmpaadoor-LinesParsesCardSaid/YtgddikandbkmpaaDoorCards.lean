/-
  DERIVED. GIVEN WITH THE SEED: THE CARDS: each row of YtgddikandbkmpaaDoorRows.lean that lists a variable, with what it lists TIED to the program's text (the seventh form; the later family's looks); each row that meets fmt, with fmt's text TOLD by the authors' own Lean function (tested against real Go, not proved from fmt's source: count such statements apart). THE CARD IS WHAT COUNTS. Prove the row's statement (the work); the ties are given (YtgddikandbkmpaaDoorTie.lean); close each card by the builder's one call (the guide's Derived/Test/ToyasCard.lean, 'card_holds'). Laid BY PROGRAM, IN A SANDBOX (cutbox-door.mjs). By AI agents, Wed Nov 11 2026. No macro, syntax, notation, axiom, sorry.
-/
import Derived.Test.YtgddikandbkmpaaDoorRows
import GoSem.ClaimSeven
namespace Go.Proofs.YtgddikandbkmpaaDoor
namespace Rows

/-- THE TIED CARD OF 'haymowlaw46.LinesTexts'. -/
def linesTextsCard : Claim7 := { stood := { row := linesTextsRow, standIns := [], harness := (true, "ec4b50a7e30fea7a320e28733ec615d993759aca4600d54d2da3365abcd8f033"), looks := false }, kinds := [], alts := [], laidByText := true, laidKinds := [.data, .pinned], laidTests := true, laidLooks := .later }
def LinesTextsCardSaid : Prop := Claim7.holds Tryd.pinned (.plain (OpenSpec.ofChange linesTextsSpec)) linesTextsCard

/-- THE TIED CARD OF 'haymowlaw46.LinesParses'. -/
def linesParsesCard : Claim7 := { stood := { row := linesParsesRow, standIns := [], harness := (true, "ec4b50a7e30fea7a320e28733ec615d993759aca4600d54d2da3365abcd8f033"), looks := false }, kinds := [], alts := [], laidByText := true, laidKinds := [.data, .pinned], laidTests := true, laidLooks := .later }
def LinesParsesCardSaid : Prop := Claim7.holds Tryd.pinned (.plain (OpenSpec.ofChange linesParsesSpec)) linesParsesCard

/-- THE SECOND FORM's CARD OF 'haymowlaw46.LinesTexts'. -/
def linesTextsUptoCard : Claim7 := { stood := { row := linesTextsUptoRow, standIns := [], harness := (true, "ec4b50a7e30fea7a320e28733ec615d993759aca4600d54d2da3365abcd8f033"), looks := false }, kinds := [], alts := [], laidByText := true, laidKinds := [.data, .pinned], laidTests := true, laidLooks := .later }
def LinesTextsUptoCardSaid : Prop := Claim7.holds Tryd.pinned (.plain (OpenSpec.upto linesTextsSpec)) linesTextsUptoCard

/-- THE SECOND FORM's CARD OF 'haymowlaw46.LinesParses'. -/
def linesParsesUptoCard : Claim7 := { stood := { row := linesParsesUptoRow, standIns := [], harness := (true, "ec4b50a7e30fea7a320e28733ec615d993759aca4600d54d2da3365abcd8f033"), looks := false }, kinds := [], alts := [], laidByText := true, laidKinds := [.data, .pinned], laidTests := true, laidLooks := .later }
def LinesParsesUptoCardSaid : Prop := Claim7.holds Tryd.pinned (.plain (OpenSpec.upto linesParsesSpec)) linesParsesUptoCard
end Rows
end Go.Proofs.YtgddikandbkmpaaDoor
