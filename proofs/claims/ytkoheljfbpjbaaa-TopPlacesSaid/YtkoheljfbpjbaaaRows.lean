/-
  No cell of these rows narrows 'for every input' (looked for: loops, veiled, ifaces, maps, wideKeys, modest, calm, conditions, laid).
  DERIVED. THE GIVEN ROWS OF THIS SEAT. 7 by the template 'for every input the law returns true; each argument reads behind the call as it read before'; 0 by the template 'total and deterministic' (their statements: YtkoheljfbpjbaaaTotals.lean).
  GIVEN WITH THE SEED: the statements are not yours to turn. If you find one false, say at which input.
  Laid BY PROGRAM, IN A SANDBOX (cutbox-rows.mjs): the forced cells as the released guide's own fill.sh prints them over the translation 91fdbf5ba051f3ff… (all of the seat's roots in one cut). By AI agents, Wed Nov 11 2026. No macro, syntax, notation, axiom, sorry.
-/
import Derived.Test.YtkoheljfbpjbaaaChecked
import GoSem.Claim
import GoSem.ClaimJoined
import GoSem.ClaimMapViews
import Derived.JoinedTies
import Derived.KernelRfl
namespace Go.Proofs.Ytkoheljfbpjbaaa
/- THE CELL 'sum', in the pinned program and in every row, IS THE sha256 OF THE DUMP (.gsa) THAT YtkoheljfbpjbaaaProg.lean LOADS. Nothing in Lean hashes anything: it is a label: what it is worth is what the hold of that sum in a sandbox is worth. -/
noncomputable def Try.pinned : Pinned := { name := "ytkoheljfbpjbaaa", sum := "91fdbf5ba051f3ff0f3d0be4067c3710516dac0a62b2eef6ac11801f9b0e6ce6", checked := Try.checked }
namespace Rows
def none {H : Type} : Left H := { results := [], args := [] }

/-- 'rankmerelaw4.HermiteShape': WHATEVER THE INPUT: true; the input reads as it did. -/
def hermiteShapeSpec : ChangeSpec := { name := "hermiteShape", fn := fun _ => fun
  | [d] => { results := [.lit (.bool true)], args := [d] }
  | _ => none }
def hermiteShapeRow : OpenClaim := { program := "ytkoheljfbpjbaaa", sum := "91fdbf5ba051f3ff0f3d0be4067c3710516dac0a62b2eef6ac11801f9b0e6ce6", func := "rankmere/rankmerelaw4.HermiteShape", spec := "hermiteShape", unfollowed := true, recurses := true, apart := false }
def HermiteShapeSaid : Prop := hermiteShapeRow.holds Try.pinned (OpenSpec.ofChange hermiteShapeSpec)

/-- ITS FALSE NEIGHBOUR: 'it returns false'. Refute it at one input. -/
def hermiteShapeWrong : ChangeSpec := { name := "hermiteShape", fn := fun _ => fun
  | [d] => { results := [.lit (.bool false)], args := [d] }
  | _ => none }
def HermiteShapeWrongFalsely : Prop := hermiteShapeRow.holds Try.pinned (OpenSpec.ofChange hermiteShapeWrong)

/-- 'rankmerelaw4.HermiteHas': WHATEVER THE INPUT: true; the input reads as it did. -/
def hermiteHasSpec : ChangeSpec := { name := "hermiteHas", fn := fun _ => fun
  | [d1, d2, d3, d4] => { results := [.lit (.bool true)], args := [d1, d2, d3, d4] }
  | _ => none }
def hermiteHasRow : OpenClaim := { program := "ytkoheljfbpjbaaa", sum := "91fdbf5ba051f3ff0f3d0be4067c3710516dac0a62b2eef6ac11801f9b0e6ce6", func := "rankmere/rankmerelaw4.HermiteHas", spec := "hermiteHas", unfollowed := true, recurses := true, apart := false }
def HermiteHasSaid : Prop := hermiteHasRow.holds Try.pinned (OpenSpec.ofChange hermiteHasSpec)

/-- ITS FALSE NEIGHBOUR: 'it returns false'. Refute it at one input. -/
def hermiteHasWrong : ChangeSpec := { name := "hermiteHas", fn := fun _ => fun
  | [d1, d2, d3, d4] => { results := [.lit (.bool false)], args := [d1, d2, d3, d4] }
  | _ => none }
def HermiteHasWrongFalsely : Prop := hermiteHasRow.holds Try.pinned (OpenSpec.ofChange hermiteHasWrong)

/-- 'rankmerelaw4.HermiteOne': WHATEVER THE INPUT: true; the input reads as it did. -/
def hermiteOneSpec : ChangeSpec := { name := "hermiteOne", fn := fun _ => fun
  | [d1, d2, d3, d4] => { results := [.lit (.bool true)], args := [d1, d2, d3, d4] }
  | _ => none }
def hermiteOneRow : OpenClaim := { program := "ytkoheljfbpjbaaa", sum := "91fdbf5ba051f3ff0f3d0be4067c3710516dac0a62b2eef6ac11801f9b0e6ce6", func := "rankmere/rankmerelaw4.HermiteOne", spec := "hermiteOne", unfollowed := true, recurses := true, apart := false }
def HermiteOneSaid : Prop := hermiteOneRow.holds Try.pinned (OpenSpec.ofChange hermiteOneSpec)

/-- ITS FALSE NEIGHBOUR: 'it returns false'. Refute it at one input. -/
def hermiteOneWrong : ChangeSpec := { name := "hermiteOne", fn := fun _ => fun
  | [d1, d2, d3, d4] => { results := [.lit (.bool false)], args := [d1, d2, d3, d4] }
  | _ => none }
def HermiteOneWrongFalsely : Prop := hermiteOneRow.holds Try.pinned (OpenSpec.ofChange hermiteOneWrong)

/-- 'rankmerelaw4.SmithDivides': WHATEVER THE INPUT: true; the input reads as it did. -/
def smithDividesSpec : ChangeSpec := { name := "smithDivides", fn := fun _ => fun
  | [d1, d2, d3, d4, d5] => { results := [.lit (.bool true)], args := [d1, d2, d3, d4, d5] }
  | _ => none }
def smithDividesRow : OpenClaim := { program := "ytkoheljfbpjbaaa", sum := "91fdbf5ba051f3ff0f3d0be4067c3710516dac0a62b2eef6ac11801f9b0e6ce6", func := "rankmere/rankmerelaw4.SmithDivides", spec := "smithDivides", unfollowed := true, recurses := true, apart := false }
def SmithDividesSaid : Prop := smithDividesRow.holds Try.pinned (OpenSpec.ofChange smithDividesSpec)

/-- ITS FALSE NEIGHBOUR: 'it returns false'. Refute it at one input. -/
def smithDividesWrong : ChangeSpec := { name := "smithDivides", fn := fun _ => fun
  | [d1, d2, d3, d4, d5] => { results := [.lit (.bool false)], args := [d1, d2, d3, d4, d5] }
  | _ => none }
def SmithDividesWrongFalsely : Prop := smithDividesRow.holds Try.pinned (OpenSpec.ofChange smithDividesWrong)

/-- 'rankmerelaw4.SmithIndex': WHATEVER THE INPUT: true; the input reads as it did. -/
def smithIndexSpec : ChangeSpec := { name := "smithIndex", fn := fun _ => fun
  | [d1, d2] => { results := [.lit (.bool true)], args := [d1, d2] }
  | _ => none }
def smithIndexRow : OpenClaim := { program := "ytkoheljfbpjbaaa", sum := "91fdbf5ba051f3ff0f3d0be4067c3710516dac0a62b2eef6ac11801f9b0e6ce6", func := "rankmere/rankmerelaw4.SmithIndex", spec := "smithIndex", unfollowed := true, recurses := true, apart := false }
def SmithIndexSaid : Prop := smithIndexRow.holds Try.pinned (OpenSpec.ofChange smithIndexSpec)

/-- ITS FALSE NEIGHBOUR: 'it returns false'. Refute it at one input. -/
def smithIndexWrong : ChangeSpec := { name := "smithIndex", fn := fun _ => fun
  | [d1, d2] => { results := [.lit (.bool false)], args := [d1, d2] }
  | _ => none }
def SmithIndexWrongFalsely : Prop := smithIndexRow.holds Try.pinned (OpenSpec.ofChange smithIndexWrong)

/-- 'rankmerelaw4.SmithTurn': WHATEVER THE INPUT: true; the input reads as it did. -/
def smithTurnSpec : ChangeSpec := { name := "smithTurn", fn := fun _ => fun
  | [d1, d2] => { results := [.lit (.bool true)], args := [d1, d2] }
  | _ => none }
def smithTurnRow : OpenClaim := { program := "ytkoheljfbpjbaaa", sum := "91fdbf5ba051f3ff0f3d0be4067c3710516dac0a62b2eef6ac11801f9b0e6ce6", func := "rankmere/rankmerelaw4.SmithTurn", spec := "smithTurn", unfollowed := true, recurses := true, apart := false }
def SmithTurnSaid : Prop := smithTurnRow.holds Try.pinned (OpenSpec.ofChange smithTurnSpec)

/-- ITS FALSE NEIGHBOUR: 'it returns false'. Refute it at one input. -/
def smithTurnWrong : ChangeSpec := { name := "smithTurn", fn := fun _ => fun
  | [d1, d2] => { results := [.lit (.bool false)], args := [d1, d2] }
  | _ => none }
def SmithTurnWrongFalsely : Prop := smithTurnRow.holds Try.pinned (OpenSpec.ofChange smithTurnWrong)

/-- 'rankmeretop.TopPlaces': WHATEVER THE INPUT: true; the input reads as it did. -/
def topPlacesSpec : ChangeSpec := { name := "topPlaces", fn := fun _ => fun
  | [d1, d2, d3] => { results := [.lit (.bool true)], args := [d1, d2, d3] }
  | _ => none }
def topPlacesRow : OpenClaim := { program := "ytkoheljfbpjbaaa", sum := "91fdbf5ba051f3ff0f3d0be4067c3710516dac0a62b2eef6ac11801f9b0e6ce6", func := "rankmere/rankmeretop.TopPlaces", spec := "topPlaces", unfollowed := true, recurses := true, apart := false }
def TopPlacesSaid : Prop := topPlacesRow.holds Try.pinned (OpenSpec.ofChange topPlacesSpec)

/-- ITS FALSE NEIGHBOUR: 'it returns false'. Refute it at one input. -/
def topPlacesWrong : ChangeSpec := { name := "topPlaces", fn := fun _ => fun
  | [d1, d2, d3] => { results := [.lit (.bool false)], args := [d1, d2, d3] }
  | _ => none }
def TopPlacesWrongFalsely : Prop := topPlacesRow.holds Try.pinned (OpenSpec.ofChange topPlacesWrong)

/- THE SECOND FORM. 'bulk': how many values and letters a reading holds, each counted each time it is reached (what is shared counts as often as it is met; a slice's spare places count too). A statement '..UptoSaid' is the law's where the arguments, and the package variables that the reading takes, are together of bulk at most 1048576: NARROWER than '..Said'. Prove '..Said' where nothing that the law and all that it calls make is longer than what came in: it says more and counts as full. Else prove '..UptoSaid'. A law counts once. -/
mutual
def uptoBulk {H : Type} : DataW H → Nat
  | .lit (.string bytes) => bytes.length + 1
  | .lit _ => 1
  | .nil => 1
  | .ptr d => uptoBulk d + 1
  | .slice elems spare => uptoBulkAll elems + uptoBulkAll spare + 1
  | .agg parts => uptoBulkAll parts + 1
  | .iface _ d => uptoBulk d + 1
  | .map entries => uptoBulkEntries entries + 1
  | .held _ => 1
def uptoBulkAll {H : Type} : List (DataW H) → Nat
  | [] => 0
  | d :: r => uptoBulk d + uptoBulkAll r
def uptoBulkEntries {H : Type} : List (Lit × DataW H) → Nat
  | [] => 0
  | x :: r => uptoBulkEntry x + uptoBulkEntries r
def uptoBulkEntry {H : Type} : Lit × DataW H → Nat
  | (.string bytes, d) => bytes.length + uptoBulk d + 1
  | (_, d) => uptoBulk d + 1
 end
def uptoSmall : (H : Type) → List (DataW H) → Bool := fun _ ds => decide (uptoBulkAll ds ≤ 1048576)
def OpenSpec.upto (s : _root_.Go.ChangeSpec) : _root_.Go.OpenSpec := { _root_.Go.OpenSpec.ofChange s with cond := some uptoSmall }

/-- 'rankmerelaw4.HermiteShape', WHERE WHAT IT READS IS OF BULK AT MOST 1048576: true; the input reads as it did. -/
def hermiteShapeUptoRow : OpenClaim := { program := "ytkoheljfbpjbaaa", sum := "91fdbf5ba051f3ff0f3d0be4067c3710516dac0a62b2eef6ac11801f9b0e6ce6", func := "rankmere/rankmerelaw4.HermiteShape", spec := "hermiteShape", unfollowed := true, recurses := true, apart := false, narrowed := true }
def HermiteShapeUptoSaid : Prop := hermiteShapeUptoRow.holds Try.pinned (OpenSpec.upto hermiteShapeSpec)

/-- 'rankmerelaw4.HermiteHas', WHERE WHAT IT READS IS OF BULK AT MOST 1048576: true; the input reads as it did. -/
def hermiteHasUptoRow : OpenClaim := { program := "ytkoheljfbpjbaaa", sum := "91fdbf5ba051f3ff0f3d0be4067c3710516dac0a62b2eef6ac11801f9b0e6ce6", func := "rankmere/rankmerelaw4.HermiteHas", spec := "hermiteHas", unfollowed := true, recurses := true, apart := false, narrowed := true }
def HermiteHasUptoSaid : Prop := hermiteHasUptoRow.holds Try.pinned (OpenSpec.upto hermiteHasSpec)

/-- 'rankmerelaw4.HermiteOne', WHERE WHAT IT READS IS OF BULK AT MOST 1048576: true; the input reads as it did. -/
def hermiteOneUptoRow : OpenClaim := { program := "ytkoheljfbpjbaaa", sum := "91fdbf5ba051f3ff0f3d0be4067c3710516dac0a62b2eef6ac11801f9b0e6ce6", func := "rankmere/rankmerelaw4.HermiteOne", spec := "hermiteOne", unfollowed := true, recurses := true, apart := false, narrowed := true }
def HermiteOneUptoSaid : Prop := hermiteOneUptoRow.holds Try.pinned (OpenSpec.upto hermiteOneSpec)

/-- 'rankmerelaw4.SmithDivides', WHERE WHAT IT READS IS OF BULK AT MOST 1048576: true; the input reads as it did. -/
def smithDividesUptoRow : OpenClaim := { program := "ytkoheljfbpjbaaa", sum := "91fdbf5ba051f3ff0f3d0be4067c3710516dac0a62b2eef6ac11801f9b0e6ce6", func := "rankmere/rankmerelaw4.SmithDivides", spec := "smithDivides", unfollowed := true, recurses := true, apart := false, narrowed := true }
def SmithDividesUptoSaid : Prop := smithDividesUptoRow.holds Try.pinned (OpenSpec.upto smithDividesSpec)

/-- 'rankmerelaw4.SmithIndex', WHERE WHAT IT READS IS OF BULK AT MOST 1048576: true; the input reads as it did. -/
def smithIndexUptoRow : OpenClaim := { program := "ytkoheljfbpjbaaa", sum := "91fdbf5ba051f3ff0f3d0be4067c3710516dac0a62b2eef6ac11801f9b0e6ce6", func := "rankmere/rankmerelaw4.SmithIndex", spec := "smithIndex", unfollowed := true, recurses := true, apart := false, narrowed := true }
def SmithIndexUptoSaid : Prop := smithIndexUptoRow.holds Try.pinned (OpenSpec.upto smithIndexSpec)

/-- 'rankmerelaw4.SmithTurn', WHERE WHAT IT READS IS OF BULK AT MOST 1048576: true; the input reads as it did. -/
def smithTurnUptoRow : OpenClaim := { program := "ytkoheljfbpjbaaa", sum := "91fdbf5ba051f3ff0f3d0be4067c3710516dac0a62b2eef6ac11801f9b0e6ce6", func := "rankmere/rankmerelaw4.SmithTurn", spec := "smithTurn", unfollowed := true, recurses := true, apart := false, narrowed := true }
def SmithTurnUptoSaid : Prop := smithTurnUptoRow.holds Try.pinned (OpenSpec.upto smithTurnSpec)

/-- 'rankmeretop.TopPlaces', WHERE WHAT IT READS IS OF BULK AT MOST 1048576: true; the input reads as it did. -/
def topPlacesUptoRow : OpenClaim := { program := "ytkoheljfbpjbaaa", sum := "91fdbf5ba051f3ff0f3d0be4067c3710516dac0a62b2eef6ac11801f9b0e6ce6", func := "rankmere/rankmeretop.TopPlaces", spec := "topPlaces", unfollowed := true, recurses := true, apart := false, narrowed := true }
def TopPlacesUptoSaid : Prop := topPlacesUptoRow.holds Try.pinned (OpenSpec.upto topPlacesSpec)

end Rows
end Go.Proofs.Ytkoheljfbpjbaaa
