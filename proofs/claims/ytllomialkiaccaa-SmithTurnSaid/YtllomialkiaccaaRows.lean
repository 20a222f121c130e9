/-
  No cell of these rows narrows 'for every input' (looked for: loops, veiled, ifaces, maps, wideKeys, modest, calm, conditions, laid).
  DERIVED. THE GIVEN ROWS OF THIS SEAT. 3 by the template 'for every input the law returns true; each argument reads behind the call as it read before'; 0 by the template 'total and deterministic' (their statements: YtllomialkiaccaaTotals.lean).
  GIVEN WITH THE SEED: the statements are not yours to turn. If you find one false, say at which input.
  Laid BY PROGRAM, IN A SANDBOX (cutbox-rows.mjs): the forced cells as the released guide's own fill.sh prints them over the translation 0969d22efe198909… (all of the seat's roots in one cut). By AI agents, Wed Nov 11 2026. No macro, syntax, notation, axiom, sorry.
-/
import Derived.Test.YtllomialkiaccaaChecked
import GoSem.Claim
import GoSem.ClaimJoined
import GoSem.ClaimMapViews
import Derived.JoinedTies
import Derived.KernelRfl
namespace Go.Proofs.Ytllomialkiaccaa
/- THE CELL 'sum', in the pinned program and in every row, IS THE sha256 OF THE DUMP (.gsa) THAT YtllomialkiaccaaProg.lean LOADS. Nothing in Lean hashes anything: it is a label: what it is worth is what the hold of that sum in a sandbox is worth. -/
noncomputable def Try.pinned : Pinned := { name := "ytllomialkiaccaa", sum := "0969d22efe198909b61ff273a2ca5c108e38b886a2e235a77ef28a9cafa5ae57", checked := Try.checked }
namespace Rows
def none {H : Type} : Left H := { results := [], args := [] }

/-- 'rankmerelaw4.SmithDivides': WHATEVER THE INPUT: true; the input reads as it did. -/
def smithDividesSpec : ChangeSpec := { name := "smithDivides", fn := fun _ => fun
  | [d1, d2, d3, d4, d5] => { results := [.lit (.bool true)], args := [d1, d2, d3, d4, d5] }
  | _ => none }
def smithDividesRow : OpenClaim := { program := "ytllomialkiaccaa", sum := "0969d22efe198909b61ff273a2ca5c108e38b886a2e235a77ef28a9cafa5ae57", func := "rankmere/rankmerelaw4.SmithDivides", spec := "smithDivides", unfollowed := true, recurses := true, apart := false }
def SmithDividesSaid : Prop := smithDividesRow.holds Try.pinned (OpenSpec.ofChange smithDividesSpec)

/-- ITS FALSE NEIGHBOUR: 'it returns false'. Refute it at one input. -/
def smithDividesWrong : ChangeSpec := { name := "smithDivides", fn := fun _ => fun
  | [d1, d2, d3, d4, d5] => { results := [.lit (.bool false)], args := [d1, d2, d3, d4, d5] }
  | _ => none }
def SmithDividesWrongFalsely : Prop := smithDividesRow.holds Try.pinned (OpenSpec.ofChange smithDividesWrong)

/-- 'rankmerelaw4.SmithIndex': WHATEVER THE INPUT: true; the input reads as it did. -/
def smithIndexSpec : ChangeSpec := { name := "smithIndex", fn := fun _ => fun
  | [d1, d2] => { results := [.lit (.bool true)], args := [d1, d2] }
  | _ => none }
def smithIndexRow : OpenClaim := { program := "ytllomialkiaccaa", sum := "0969d22efe198909b61ff273a2ca5c108e38b886a2e235a77ef28a9cafa5ae57", func := "rankmere/rankmerelaw4.SmithIndex", spec := "smithIndex", unfollowed := true, recurses := true, apart := false }
def SmithIndexSaid : Prop := smithIndexRow.holds Try.pinned (OpenSpec.ofChange smithIndexSpec)

/-- ITS FALSE NEIGHBOUR: 'it returns false'. Refute it at one input. -/
def smithIndexWrong : ChangeSpec := { name := "smithIndex", fn := fun _ => fun
  | [d1, d2] => { results := [.lit (.bool false)], args := [d1, d2] }
  | _ => none }
def SmithIndexWrongFalsely : Prop := smithIndexRow.holds Try.pinned (OpenSpec.ofChange smithIndexWrong)

/-- 'rankmerelaw4.SmithTurn': WHATEVER THE INPUT: true; the input reads as it did. -/
def smithTurnSpec : ChangeSpec := { name := "smithTurn", fn := fun _ => fun
  | [d1, d2] => { results := [.lit (.bool true)], args := [d1, d2] }
  | _ => none }
def smithTurnRow : OpenClaim := { program := "ytllomialkiaccaa", sum := "0969d22efe198909b61ff273a2ca5c108e38b886a2e235a77ef28a9cafa5ae57", func := "rankmere/rankmerelaw4.SmithTurn", spec := "smithTurn", unfollowed := true, recurses := true, apart := false }
def SmithTurnSaid : Prop := smithTurnRow.holds Try.pinned (OpenSpec.ofChange smithTurnSpec)

/-- ITS FALSE NEIGHBOUR: 'it returns false'. Refute it at one input. -/
def smithTurnWrong : ChangeSpec := { name := "smithTurn", fn := fun _ => fun
  | [d1, d2] => { results := [.lit (.bool false)], args := [d1, d2] }
  | _ => none }
def SmithTurnWrongFalsely : Prop := smithTurnRow.holds Try.pinned (OpenSpec.ofChange smithTurnWrong)

/- THE SECOND FORM. 'bulk': how many values and letters a reading holds, each counted each time it is reached (what is shared counts as often as it is met; a slice's spare places count too). A statement '..UptoSaid' is the law's where the arguments, and the package variables that the reading takes, are together of bulk at most 1048576: NARROWER than '..Said'. Prove '..Said' where nothing that the law and all that it calls make is longer than what came in: it says more and counts as full. Else prove '..UptoSaid'. A law counts once. -/
mutual
def uptoBulk {H : Type} : DataW H → Nat
  | .lit (.string bytes) => bytes.length + 1
  | .lit _ => 1
  | .nil => 1
  | .ptr d => uptoBulk d + 1
  | .slice elems spare => uptoBulkAll elems + uptoBulkAll spare + 1
  | .agg parts => uptoBulkAll parts + 1
  | .iface _ d => uptoBulk d + 1
  | .map entries => uptoBulkEntries entries + 1
  | .held _ => 1
def uptoBulkAll {H : Type} : List (DataW H) → Nat
  | [] => 0
  | d :: r => uptoBulk d + uptoBulkAll r
def uptoBulkEntries {H : Type} : List (Lit × DataW H) → Nat
  | [] => 0
  | x :: r => uptoBulkEntry x + uptoBulkEntries r
def uptoBulkEntry {H : Type} : Lit × DataW H → Nat
  | (.string bytes, d) => bytes.length + uptoBulk d + 1
  | (_, d) => uptoBulk d + 1
 end
def uptoSmall : (H : Type) → List (DataW H) → Bool := fun _ ds => decide (uptoBulkAll ds ≤ 1048576)
def OpenSpec.upto (s : _root_.Go.ChangeSpec) : _root_.Go.OpenSpec := { _root_.Go.OpenSpec.ofChange s with cond := some uptoSmall }

/-- 'rankmerelaw4.SmithDivides', WHERE WHAT IT READS IS OF BULK AT MOST 1048576: true; the input reads as it did. -/
def smithDividesUptoRow : OpenClaim := { program := "ytllomialkiaccaa", sum := "0969d22efe198909b61ff273a2ca5c108e38b886a2e235a77ef28a9cafa5ae57", func := "rankmere/rankmerelaw4.SmithDivides", spec := "smithDivides", unfollowed := true, recurses := true, apart := false, narrowed := true }
def SmithDividesUptoSaid : Prop := smithDividesUptoRow.holds Try.pinned (OpenSpec.upto smithDividesSpec)

/-- 'rankmerelaw4.SmithIndex', WHERE WHAT IT READS IS OF BULK AT MOST 1048576: true; the input reads as it did. -/
def smithIndexUptoRow : OpenClaim := { program := "ytllomialkiaccaa", sum := "0969d22efe198909b61ff273a2ca5c108e38b886a2e235a77ef28a9cafa5ae57", func := "rankmere/rankmerelaw4.SmithIndex", spec := "smithIndex", unfollowed := true, recurses := true, apart := false, narrowed := true }
def SmithIndexUptoSaid : Prop := smithIndexUptoRow.holds Try.pinned (OpenSpec.upto smithIndexSpec)

/-- 'rankmerelaw4.SmithTurn', WHERE WHAT IT READS IS OF BULK AT MOST 1048576: true; the input reads as it did. -/
def smithTurnUptoRow : OpenClaim := { program := "ytllomialkiaccaa", sum := "0969d22efe198909b61ff273a2ca5c108e38b886a2e235a77ef28a9cafa5ae57", func := "rankmere/rankmerelaw4.SmithTurn", spec := "smithTurn", unfollowed := true, recurses := true, apart := false, narrowed := true }
def SmithTurnUptoSaid : Prop := smithTurnUptoRow.holds Try.pinned (OpenSpec.upto smithTurnSpec)

end Rows
end Go.Proofs.Ytllomialkiaccaa
