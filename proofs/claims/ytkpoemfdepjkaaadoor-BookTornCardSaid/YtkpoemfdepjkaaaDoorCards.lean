/-
  DERIVED. GIVEN WITH THE SEED: THE CARDS: each row of YtkpoemfdepjkaaaDoorRows.lean that lists a variable, with what it lists TIED to the program's text (the seventh form; the later family's looks); each row that meets fmt, with fmt's text TOLD by the authors' own Lean function (tested against real Go, not proved from fmt's source: count such statements apart). THE CARD IS WHAT COUNTS. Prove the row's statement (the work); the ties are given (YtkpoemfdepjkaaaDoorTie.lean); close each card by the builder's one call (the guide's Derived/Test/ToyasCard.lean, 'card_holds'). Laid BY PROGRAM, IN A SANDBOX (cutbox-door.mjs). By AI agents, Wed Nov 11 2026. No macro, syntax, notation, axiom, sorry.
-/
import Derived.Test.YtkpoemfdepjkaaaDoorRows
import GoSem.ClaimSeven
namespace Go.Proofs.YtkpoemfdepjkaaaDoor
namespace Rows

/-- THE TIED CARD OF 'rankmerelaw4.BookDet'. -/
def bookDetCard : Claim7 := { stood := { row := bookDetRow, standIns := [], harness := (true, "5b0f15848a9fe51890e7107c5d10042801d3be2958d7879b86118cfb94944e4f"), looks := true }, kinds := [], alts := [], laidByText := true, laidKinds := [.data, .data, .data], laidTests := true, laidLooks := .later }
def BookDetCardSaid : Prop := Claim7.holds Tryd.pinned (.plain (OpenSpec.ofChange bookDetSpec)) bookDetCard

/-- THE TIED CARD OF 'rankmerelaw4.BookPlays'. -/
def bookPlaysCard : Claim7 := { stood := { row := bookPlaysRow, standIns := [], harness := (true, "5b0f15848a9fe51890e7107c5d10042801d3be2958d7879b86118cfb94944e4f"), looks := true }, kinds := [], alts := [], laidByText := true, laidKinds := [.data, .data, .data, .handle], laidTests := true, laidLooks := .later }
def BookPlaysCardSaid : Prop := Claim7.holds Tryd.pinned (.plain (OpenSpec.ofChange bookPlaysSpec)) bookPlaysCard

/-- THE TIED CARD OF 'rankmerelaw4.BookTorn'. -/
def bookTornCard : Claim7 := { stood := { row := bookTornRow, standIns := [], harness := (true, "5b0f15848a9fe51890e7107c5d10042801d3be2958d7879b86118cfb94944e4f"), looks := true }, kinds := [], alts := [], laidByText := true, laidKinds := [.data, .data, .data, .data, .sentinel, .sentinel, .pinned], laidTests := true, laidLooks := .later }
def BookTornCardSaid : Prop := Claim7.holds Tryd.pinned (.plain (OpenSpec.ofChange bookTornSpec)) bookTornCard

/-- THE SECOND FORM's CARD OF 'rankmerelaw4.BookDet'. -/
def bookDetUptoCard : Claim7 := { stood := { row := bookDetUptoRow, standIns := [], harness := (true, "5b0f15848a9fe51890e7107c5d10042801d3be2958d7879b86118cfb94944e4f"), looks := true }, kinds := [], alts := [], laidByText := true, laidKinds := [.data, .data, .data], laidTests := true, laidLooks := .later }
def BookDetUptoCardSaid : Prop := Claim7.holds Tryd.pinned (.plain (OpenSpec.upto bookDetSpec)) bookDetUptoCard

/-- THE SECOND FORM's CARD OF 'rankmerelaw4.BookPlays'. -/
def bookPlaysUptoCard : Claim7 := { stood := { row := bookPlaysUptoRow, standIns := [], harness := (true, "5b0f15848a9fe51890e7107c5d10042801d3be2958d7879b86118cfb94944e4f"), looks := true }, kinds := [], alts := [], laidByText := true, laidKinds := [.data, .data, .data, .handle], laidTests := true, laidLooks := .later }
def BookPlaysUptoCardSaid : Prop := Claim7.holds Tryd.pinned (.plain (OpenSpec.upto bookPlaysSpec)) bookPlaysUptoCard

/-- THE SECOND FORM's CARD OF 'rankmerelaw4.BookTorn'. -/
def bookTornUptoCard : Claim7 := { stood := { row := bookTornUptoRow, standIns := [], harness := (true, "5b0f15848a9fe51890e7107c5d10042801d3be2958d7879b86118cfb94944e4f"), looks := true }, kinds := [], alts := [], laidByText := true, laidKinds := [.data, .data, .data, .data, .sentinel, .sentinel, .pinned], laidTests := true, laidLooks := .later }
def BookTornUptoCardSaid : Prop := Claim7.holds Tryd.pinned (.plain (OpenSpec.upto bookTornSpec)) bookTornUptoCard
end Rows
end Go.Proofs.YtkpoemfdepjkaaaDoor
