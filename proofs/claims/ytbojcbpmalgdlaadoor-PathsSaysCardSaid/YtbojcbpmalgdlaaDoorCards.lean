/-
  DERIVED. GIVEN WITH THE SEED: THE CARDS: each row of YtbojcbpmalgdlaaDoorRows.lean that lists a variable, with what it lists TIED to the program's text (the seventh form; the later family's looks); each row that meets fmt, with fmt's text TOLD by the authors' own Lean function (tested against real Go, not proved from fmt's source: count such statements apart). THE CARD IS WHAT COUNTS. Prove the row's statement (the work); the ties are given (YtbojcbpmalgdlaaDoorTie.lean); close each card by the builder's one call (the guide's Derived/Test/ToyasCard.lean, 'card_holds'). Laid BY PROGRAM, IN A SANDBOX (cutbox-door.mjs). By AI agents, Wed Nov 11 2026. No macro, syntax, notation, axiom, sorry.
-/
import Derived.Test.YtbojcbpmalgdlaaDoorRows
import GoSem.ClaimSeven
namespace Go.Proofs.YtbojcbpmalgdlaaDoor
namespace Rows

/-- THE TIED CARD OF 'rankmerelaw4.PathsSays'. -/
def pathsSaysCard : Claim7 := { stood := { row := pathsSaysRow, standIns := [], harness := (true, "24c523a6ed75af717c6363973bb394eed34c5cbbd716d5e245b12f17804b7eec"), looks := true }, kinds := [], alts := [], laidByText := true, laidKinds := [.handle], laidTests := true, laidLooks := .later }
def PathsSaysCardSaid : Prop := Claim7.holds Tryd.pinned (.plain (OpenSpec.ofChange pathsSaysSpec)) pathsSaysCard

/-- THE SECOND FORM's CARD OF 'rankmerelaw4.PathsSays'. -/
def pathsSaysUptoCard : Claim7 := { stood := { row := pathsSaysUptoRow, standIns := [], harness := (true, "24c523a6ed75af717c6363973bb394eed34c5cbbd716d5e245b12f17804b7eec"), looks := true }, kinds := [], alts := [], laidByText := true, laidKinds := [.handle], laidTests := true, laidLooks := .later }
def PathsSaysUptoCardSaid : Prop := Claim7.holds Tryd.pinned (.plain (OpenSpec.upto pathsSaysSpec)) pathsSaysUptoCard
end Rows
end Go.Proofs.YtbojcbpmalgdlaaDoor
