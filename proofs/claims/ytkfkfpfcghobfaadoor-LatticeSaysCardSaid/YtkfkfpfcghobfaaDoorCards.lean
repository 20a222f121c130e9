/-
  DERIVED. GIVEN WITH THE SEED: THE CARDS: each row of YtkfkfpfcghobfaaDoorRows.lean that lists a variable, with what it lists TIED to the program's text (the seventh form; the later family's looks); each row that meets fmt, with fmt's text TOLD by the authors' own Lean function (tested against real Go, not proved from fmt's source: count such statements apart). THE CARD IS WHAT COUNTS. Prove the row's statement (the work); the ties are given (YtkfkfpfcghobfaaDoorTie.lean); close each card by the builder's one call (the guide's Derived/Test/ToyasCard.lean, 'card_holds'). Laid BY PROGRAM, IN A SANDBOX (cutbox-door.mjs). By AI agents, Wed Nov 11 2026. No macro, syntax, notation, axiom, sorry.
-/
import Derived.Test.YtkfkfpfcghobfaaDoorRows
import GoSem.ClaimSeven
namespace Go.Proofs.YtkfkfpfcghobfaaDoor
namespace Rows

/-- THE TIED CARD OF 'rankmerelaw4.LatticeSays'. -/
def latticeSaysCard : Claim7 := { stood := { row := latticeSaysRow, standIns := [], harness := (true, "6da3f803702c059959ede715328b04cb8798c1d22c5bbfa114edcaae98e7ddc9"), looks := true }, kinds := [], alts := [], laidByText := true, laidKinds := [.handle], laidTests := true, laidLooks := .later }
def LatticeSaysCardSaid : Prop := Claim7.holds Tryd.pinned (.plain (OpenSpec.ofChange latticeSaysSpec)) latticeSaysCard

/-- THE SECOND FORM's CARD OF 'rankmerelaw4.LatticeSays'. -/
def latticeSaysUptoCard : Claim7 := { stood := { row := latticeSaysUptoRow, standIns := [], harness := (true, "6da3f803702c059959ede715328b04cb8798c1d22c5bbfa114edcaae98e7ddc9"), looks := true }, kinds := [], alts := [], laidByText := true, laidKinds := [.handle], laidTests := true, laidLooks := .later }
def LatticeSaysUptoCardSaid : Prop := Claim7.holds Tryd.pinned (.plain (OpenSpec.upto latticeSaysSpec)) latticeSaysUptoCard
end Rows
end Go.Proofs.YtkfkfpfcghobfaaDoor
