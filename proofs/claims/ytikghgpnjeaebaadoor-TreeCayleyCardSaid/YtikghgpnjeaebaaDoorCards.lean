/-
  DERIVED. GIVEN WITH THE SEED: THE CARDS: each row of YtikghgpnjeaebaaDoorRows.lean that lists a variable, with what it lists TIED to the program's text (the seventh form; the later family's looks); each row that meets fmt, with fmt's text TOLD by the authors' own Lean function (tested against real Go, not proved from fmt's source: count such statements apart). THE CARD IS WHAT COUNTS. Prove the row's statement (the work); the ties are given (YtikghgpnjeaebaaDoorTie.lean); close each card by the builder's one call (the guide's Derived/Test/ToyasCard.lean, 'card_holds'). Laid BY PROGRAM, IN A SANDBOX (cutbox-door.mjs). By AI agents, Wed Nov 11 2026. No macro, syntax, notation, axiom, sorry.
-/
import Derived.Test.YtikghgpnjeaebaaDoorRows
import GoSem.ClaimSeven
namespace Go.Proofs.YtikghgpnjeaebaaDoor
namespace Rows

/-- THE TIED CARD OF 'rankmerelaw4.TreeCayley'. -/
def treeCayleyCard : Claim7 := { stood := { row := treeCayleyRow, standIns := [], harness := (true, "7c5d22c6b5d7d9c744cec1de1fbb4fe35b419a06f155d0d0de130e485f2eefde"), looks := true }, kinds := [], alts := [], laidByText := true, laidKinds := [.handle], laidTests := true, laidLooks := .later }
def TreeCayleyCardSaid : Prop := Claim7.holds Tryd.pinned (.plain (OpenSpec.ofChange treeCayleySpec)) treeCayleyCard

/-- THE SECOND FORM's CARD OF 'rankmerelaw4.TreeCayley'. -/
def treeCayleyUptoCard : Claim7 := { stood := { row := treeCayleyUptoRow, standIns := [], harness := (true, "7c5d22c6b5d7d9c744cec1de1fbb4fe35b419a06f155d0d0de130e485f2eefde"), looks := true }, kinds := [], alts := [], laidByText := true, laidKinds := [.handle], laidTests := true, laidLooks := .later }
def TreeCayleyUptoCardSaid : Prop := Claim7.holds Tryd.pinned (.plain (OpenSpec.upto treeCayleySpec)) treeCayleyUptoCard
end Rows
end Go.Proofs.YtikghgpnjeaebaaDoor
