/-
  DERIVED. GIVEN WITH THE SEED: THE CARDS: each row of YtijlhdgagaehaaaDoorRows.lean that lists a variable, with what it lists TIED to the program's text (the seventh form; the later family's looks); each row that meets fmt, with fmt's text TOLD by the authors' own Lean function (tested against real Go, not proved from fmt's source: count such statements apart). THE CARD IS WHAT COUNTS. Prove the row's statement (the work); the ties are given (YtijlhdgagaehaaaDoorTie.lean); close each card by the builder's one call (the guide's Derived/Test/ToyasCard.lean, 'card_holds'). Laid BY PROGRAM, IN A SANDBOX (cutbox-door.mjs). By AI agents, Wed Nov 11 2026. No macro, syntax, notation, axiom, sorry.
-/
import Derived.Test.YtijlhdgagaehaaaDoorRows
import GoSem.ClaimSeven
namespace Go.Proofs.YtijlhdgagaehaaaDoor
namespace Rows

/-- THE TIED CARD OF 'rankmerelaw4.HermiteSays'. -/
def hermiteSaysCard : Claim7 := { stood := { row := hermiteSaysRow, standIns := [], harness := (true, "237a1d51c18932646956b8ebe57c65a1dcddb6493b744a5a1255ee80149fe38f"), looks := true }, kinds := [], alts := [], laidByText := true, laidKinds := [.handle], laidTests := true, laidLooks := .later }
def HermiteSaysCardSaid : Prop := Claim7.holds Tryd.pinned (.plain (OpenSpec.ofChange hermiteSaysSpec)) hermiteSaysCard

/-- THE SECOND FORM's CARD OF 'rankmerelaw4.HermiteSays'. -/
def hermiteSaysUptoCard : Claim7 := { stood := { row := hermiteSaysUptoRow, standIns := [], harness := (true, "237a1d51c18932646956b8ebe57c65a1dcddb6493b744a5a1255ee80149fe38f"), looks := true }, kinds := [], alts := [], laidByText := true, laidKinds := [.handle], laidTests := true, laidLooks := .later }
def HermiteSaysUptoCardSaid : Prop := Claim7.holds Tryd.pinned (.plain (OpenSpec.upto hermiteSaysSpec)) hermiteSaysUptoCard
end Rows
end Go.Proofs.YtijlhdgagaehaaaDoor
