/-
  DERIVED. GIVEN WITH THE SEED: THE CARDS: each row of YtbicffgddheakaaDoorRows.lean that lists a variable, with what it lists TIED to the program's text (the seventh form; the later family's looks); each row that meets fmt, with fmt's text TOLD by the authors' own Lean function (tested against real Go, not proved from fmt's source: count such statements apart). THE CARD IS WHAT COUNTS. Prove the row's statement (the work); the ties are given (YtbicffgddheakaaDoorTie.lean); close each card by the builder's one call (the guide's Derived/Test/ToyasCard.lean, 'card_holds'). Laid BY PROGRAM, IN A SANDBOX (cutbox-door.mjs). By AI agents, Wed Nov 11 2026. No macro, syntax, notation, axiom, sorry.
-/
import Derived.Test.YtbicffgddheakaaDoorRows
import GoSem.ClaimSeven
namespace Go.Proofs.YtbicffgddheakaaDoor
namespace Rows

/-- THE TIED CARD OF 'rankmerelaw4.PermSays'. -/
def permSaysCard : Claim7 := { stood := { row := permSaysRow, standIns := [], harness := (true, "2de72a6c74e838b385861305330f36c36ad193339d9f1c23a39535a49fedc162"), looks := true }, kinds := [], alts := [], laidByText := true, laidKinds := [.handle], laidTests := true, laidLooks := .later }
def PermSaysCardSaid : Prop := Claim7.holds Tryd.pinned (.plain (OpenSpec.ofChange permSaysSpec)) permSaysCard

/-- THE SECOND FORM's CARD OF 'rankmerelaw4.PermSays'. -/
def permSaysUptoCard : Claim7 := { stood := { row := permSaysUptoRow, standIns := [], harness := (true, "2de72a6c74e838b385861305330f36c36ad193339d9f1c23a39535a49fedc162"), looks := true }, kinds := [], alts := [], laidByText := true, laidKinds := [.handle], laidTests := true, laidLooks := .later }
def PermSaysUptoCardSaid : Prop := Claim7.holds Tryd.pinned (.plain (OpenSpec.upto permSaysSpec)) permSaysUptoCard
end Rows
end Go.Proofs.YtbicffgddheakaaDoor
