/-
  DERIVED. GIVEN WITH THE SEED: THE CARDS: each row of YtkcgcedldjcfjaaDoorRows.lean that lists a variable, with what it lists TIED to the program's text (the seventh form; the later family's looks); each row that meets fmt, with fmt's text TOLD by the authors' own Lean function (tested against real Go, not proved from fmt's source: count such statements apart). THE CARD IS WHAT COUNTS. Prove the row's statement (the work); the ties are given (YtkcgcedldjcfjaaDoorTie.lean); close each card by the builder's one call (the guide's Derived/Test/ToyasCard.lean, 'card_holds'). Laid BY PROGRAM, IN A SANDBOX (cutbox-door.mjs). By AI agents, Wed Nov 11 2026. No macro, syntax, notation, axiom, sorry.
-/
import Derived.Test.YtkcgcedldjcfjaaDoorRows
import GoSem.ClaimSeven
namespace Go.Proofs.YtkcgcedldjcfjaaDoor
namespace Rows

/-- THE TIED CARD OF 'rankmerelaw4.PfaffSays'. -/
def pfaffSaysCard : Claim7 := { stood := { row := pfaffSaysRow, standIns := [], harness := (true, "20bceb99e8990a2016e2aaaf0c37ff5256908ae591261b15125058cdaa76ca09"), looks := true }, kinds := [], alts := [], laidByText := true, laidKinds := [.handle], laidTests := true, laidLooks := .later }
def PfaffSaysCardSaid : Prop := Claim7.holds Tryd.pinned (.plain (OpenSpec.ofChange pfaffSaysSpec)) pfaffSaysCard

/-- THE SECOND FORM's CARD OF 'rankmerelaw4.PfaffSays'. -/
def pfaffSaysUptoCard : Claim7 := { stood := { row := pfaffSaysUptoRow, standIns := [], harness := (true, "20bceb99e8990a2016e2aaaf0c37ff5256908ae591261b15125058cdaa76ca09"), looks := true }, kinds := [], alts := [], laidByText := true, laidKinds := [.handle], laidTests := true, laidLooks := .later }
def PfaffSaysUptoCardSaid : Prop := Claim7.holds Tryd.pinned (.plain (OpenSpec.upto pfaffSaysSpec)) pfaffSaysUptoCard
end Rows
end Go.Proofs.YtkcgcedldjcfjaaDoor
