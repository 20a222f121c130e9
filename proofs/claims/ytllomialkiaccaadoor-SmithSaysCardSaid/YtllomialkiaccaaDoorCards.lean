/-
  DERIVED. GIVEN WITH THE SEED: THE CARDS: each row of YtllomialkiaccaaDoorRows.lean that lists a variable, with what it lists TIED to the program's text (the seventh form; the later family's looks); each row that meets fmt, with fmt's text TOLD by the authors' own Lean function (tested against real Go, not proved from fmt's source: count such statements apart). THE CARD IS WHAT COUNTS. Prove the row's statement (the work); the ties are given (YtllomialkiaccaaDoorTie.lean); close each card by the builder's one call (the guide's Derived/Test/ToyasCard.lean, 'card_holds'). Laid BY PROGRAM, IN A SANDBOX (cutbox-door.mjs). By AI agents, Wed Nov 11 2026. No macro, syntax, notation, axiom, sorry.
-/
import Derived.Test.YtllomialkiaccaaDoorRows
import GoSem.ClaimSeven
namespace Go.Proofs.YtllomialkiaccaaDoor
namespace Rows

/-- THE TIED CARD OF 'rankmerelaw4.SmithSays'. -/
def smithSaysCard : Claim7 := { stood := { row := smithSaysRow, standIns := [], harness := (true, "9806687d34e5868e6a2ebdfc76ea459b561cc6c716389f0733f11df58f52c859"), looks := true }, kinds := [], alts := [], laidByText := true, laidKinds := [.handle], laidTests := true, laidLooks := .later }
def SmithSaysCardSaid : Prop := Claim7.holds Tryd.pinned (.plain (OpenSpec.ofChange smithSaysSpec)) smithSaysCard

/-- THE SECOND FORM's CARD OF 'rankmerelaw4.SmithSays'. -/
def smithSaysUptoCard : Claim7 := { stood := { row := smithSaysUptoRow, standIns := [], harness := (true, "9806687d34e5868e6a2ebdfc76ea459b561cc6c716389f0733f11df58f52c859"), looks := true }, kinds := [], alts := [], laidByText := true, laidKinds := [.handle], laidTests := true, laidLooks := .later }
def SmithSaysUptoCardSaid : Prop := Claim7.holds Tryd.pinned (.plain (OpenSpec.upto smithSaysSpec)) smithSaysUptoCard
end Rows
end Go.Proofs.YtllomialkiaccaaDoor
