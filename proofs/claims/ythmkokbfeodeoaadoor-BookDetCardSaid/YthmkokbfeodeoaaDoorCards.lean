/-
  DERIVED. GIVEN WITH THE SEED: THE CARDS: each row of YthmkokbfeodeoaaDoorRows.lean that lists a variable, with what it lists TIED to the program's text (the seventh form; the later family's looks); each row that meets fmt, with fmt's text TOLD by the authors' own Lean function (tested against real Go, not proved from fmt's source: count such statements apart). THE CARD IS WHAT COUNTS. Prove the row's statement (the work); the ties are given (YthmkokbfeodeoaaDoorTie.lean); close each card by the builder's one call (the guide's Derived/Test/ToyasCard.lean, 'card_holds'). Laid BY PROGRAM, IN A SANDBOX (cutbox-door.mjs). By AI agents, Wed Nov 11 2026. No macro, syntax, notation, axiom, sorry.
-/
import Derived.Test.YthmkokbfeodeoaaDoorRows
import GoSem.ClaimSeven
namespace Go.Proofs.YthmkokbfeodeoaaDoor
namespace Rows

/-- THE TIED CARD OF 'rankmerelaw4.BookDet'. -/
def bookDetCard : Claim7 := { stood := { row := bookDetRow, standIns := [], harness := (true, "fc8c25750668a6846764d421257c66307f1f598912a6950eec7a8a7bb7e085fe"), looks := false }, kinds := [], alts := [], laidByText := true, laidKinds := [.data, .data, .data], laidTests := true, laidLooks := .later }
def BookDetCardSaid : Prop := Claim7.holds Tryd.pinned (.plain (OpenSpec.ofChange bookDetSpec)) bookDetCard

/-- THE SECOND FORM's CARD OF 'rankmerelaw4.BookDet'. -/
def bookDetUptoCard : Claim7 := { stood := { row := bookDetUptoRow, standIns := [], harness := (true, "fc8c25750668a6846764d421257c66307f1f598912a6950eec7a8a7bb7e085fe"), looks := false }, kinds := [], alts := [], laidByText := true, laidKinds := [.data, .data, .data], laidTests := true, laidLooks := .later }
def BookDetUptoCardSaid : Prop := Claim7.holds Tryd.pinned (.plain (OpenSpec.upto bookDetSpec)) bookDetUptoCard
end Rows
end Go.Proofs.YthmkokbfeodeoaaDoor
