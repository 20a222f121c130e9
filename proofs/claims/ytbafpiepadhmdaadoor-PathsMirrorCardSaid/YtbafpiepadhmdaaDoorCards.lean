/-
  DERIVED. GIVEN WITH THE SEED: THE CARDS: each row of YtbafpiepadhmdaaDoorRows.lean that lists a variable, with what it lists TIED to the program's text (the seventh form; the later family's looks); each row that meets fmt, with fmt's text TOLD by the authors' own Lean function (tested against real Go, not proved from fmt's source: count such statements apart). THE CARD IS WHAT COUNTS. Prove the row's statement (the work); the ties are given (YtbafpiepadhmdaaDoorTie.lean); close each card by the builder's one call (the guide's Derived/Test/ToyasCard.lean, 'card_holds'). Laid BY PROGRAM, IN A SANDBOX (cutbox-door.mjs). By AI agents, Wed Nov 11 2026. No macro, syntax, notation, axiom, sorry.
-/
import Derived.Test.YtbafpiepadhmdaaDoorRows
import GoSem.ClaimSeven
namespace Go.Proofs.YtbafpiepadhmdaaDoor
namespace Rows

/-- THE TIED CARD OF 'rankmerelaw4.PathsSays'. -/
def pathsSaysCard : Claim7 := { stood := { row := pathsSaysRow, standIns := [], harness := (true, "348cf2c9f270c1722ae150c88847cb3fd480222d6517345b902ba6b8300ce917"), looks := true }, kinds := [], alts := [], laidByText := true, laidKinds := [.handle], laidTests := true, laidLooks := .later }
def PathsSaysCardSaid : Prop := Claim7.holds Tryd.pinned (.plain (OpenSpec.ofChange pathsSaysSpec)) pathsSaysCard

/-- THE TIED CARD OF 'rankmerelaw4.PathsMirror'. -/
def pathsMirrorCard : Claim7 := { stood := { row := pathsMirrorRow, standIns := [], harness := (true, "348cf2c9f270c1722ae150c88847cb3fd480222d6517345b902ba6b8300ce917"), looks := true }, kinds := [], alts := [], laidByText := true, laidKinds := [.handle], laidTests := true, laidLooks := .later }
def PathsMirrorCardSaid : Prop := Claim7.holds Tryd.pinned (.plain (OpenSpec.ofChange pathsMirrorSpec)) pathsMirrorCard

/-- THE SECOND FORM's CARD OF 'rankmerelaw4.PathsSays'. -/
def pathsSaysUptoCard : Claim7 := { stood := { row := pathsSaysUptoRow, standIns := [], harness := (true, "348cf2c9f270c1722ae150c88847cb3fd480222d6517345b902ba6b8300ce917"), looks := true }, kinds := [], alts := [], laidByText := true, laidKinds := [.handle], laidTests := true, laidLooks := .later }
def PathsSaysUptoCardSaid : Prop := Claim7.holds Tryd.pinned (.plain (OpenSpec.upto pathsSaysSpec)) pathsSaysUptoCard

/-- THE SECOND FORM's CARD OF 'rankmerelaw4.PathsMirror'. -/
def pathsMirrorUptoCard : Claim7 := { stood := { row := pathsMirrorUptoRow, standIns := [], harness := (true, "348cf2c9f270c1722ae150c88847cb3fd480222d6517345b902ba6b8300ce917"), looks := true }, kinds := [], alts := [], laidByText := true, laidKinds := [.handle], laidTests := true, laidLooks := .later }
def PathsMirrorUptoCardSaid : Prop := Claim7.holds Tryd.pinned (.plain (OpenSpec.upto pathsMirrorSpec)) pathsMirrorUptoCard
end Rows
end Go.Proofs.YtbafpiepadhmdaaDoor
