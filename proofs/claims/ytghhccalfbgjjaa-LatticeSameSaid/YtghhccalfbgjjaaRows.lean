/-
  No cell of these rows narrows 'for every input' (looked for: loops, veiled, ifaces, maps, wideKeys, modest, calm, conditions, laid).
  DERIVED. THE GIVEN ROWS OF THIS SEAT. 3 by the template 'for every input the law returns true; each argument reads behind the call as it read before'; 0 by the template 'total and deterministic' (their statements: YtghhccalfbgjjaaTotals.lean).
  GIVEN WITH THE SEED: the statements are not yours to turn. If you find one false, say at which input.
  Laid BY PROGRAM, IN A SANDBOX (cutbox-rows.mjs): the forced cells as the released guide's own fill.sh prints them over the translation 60144445312f5ff6… (all of the seat's roots in one cut). By AI agents, Wed Nov 11 2026. No macro, syntax, notation, axiom, sorry.
-/
import Derived.Test.YtghhccalfbgjjaaChecked
import GoSem.Claim
import GoSem.ClaimJoined
import GoSem.ClaimMapViews
import Derived.JoinedTies
import Derived.KernelRfl
namespace Go.Proofs.Ytghhccalfbgjjaa
/- THE CELL 'sum', in the pinned program and in every row, IS THE sha256 OF THE DUMP (.gsa) THAT YtghhccalfbgjjaaProg.lean LOADS. Nothing in Lean hashes anything: it is a label: what it is worth is what the hold of that sum in a sandbox is worth. -/
noncomputable def Try.pinned : Pinned := { name := "ytghhccalfbgjjaa", sum := "60144445312f5ff693220211cbd0cabae13e14205e4086696cd37a44b2020c3f", checked := Try.checked }
namespace Rows
def none {H : Type} : Left H := { results := [], args := [] }

/-- 'rankmerelaw4.LatticeShort': WHATEVER THE INPUT: true; the input reads as it did. -/
def latticeShortSpec : ChangeSpec := { name := "latticeShort", fn := fun _ => fun
  | [d1, d2, d3, d4] => { results := [.lit (.bool true)], args := [d1, d2, d3, d4] }
  | _ => none }
def latticeShortRow : OpenClaim := { program := "ytghhccalfbgjjaa", sum := "60144445312f5ff693220211cbd0cabae13e14205e4086696cd37a44b2020c3f", func := "rankmere/rankmerelaw4.LatticeShort", spec := "latticeShort", apart := false }
def LatticeShortSaid : Prop := latticeShortRow.holds Try.pinned (OpenSpec.ofChange latticeShortSpec)

/-- ITS FALSE NEIGHBOUR: 'it returns false'. Refute it at one input. -/
def latticeShortWrong : ChangeSpec := { name := "latticeShort", fn := fun _ => fun
  | [d1, d2, d3, d4] => { results := [.lit (.bool false)], args := [d1, d2, d3, d4] }
  | _ => none }
def LatticeShortWrongFalsely : Prop := latticeShortRow.holds Try.pinned (OpenSpec.ofChange latticeShortWrong)

/-- 'rankmerelaw4.LatticeArea': WHATEVER THE INPUT: true; the input reads as it did. -/
def latticeAreaSpec : ChangeSpec := { name := "latticeArea", fn := fun _ => fun
  | [d1, d2] => { results := [.lit (.bool true)], args := [d1, d2] }
  | _ => none }
def latticeAreaRow : OpenClaim := { program := "ytghhccalfbgjjaa", sum := "60144445312f5ff693220211cbd0cabae13e14205e4086696cd37a44b2020c3f", func := "rankmere/rankmerelaw4.LatticeArea", spec := "latticeArea", apart := false }
def LatticeAreaSaid : Prop := latticeAreaRow.holds Try.pinned (OpenSpec.ofChange latticeAreaSpec)

/-- ITS FALSE NEIGHBOUR: 'it returns false'. Refute it at one input. -/
def latticeAreaWrong : ChangeSpec := { name := "latticeArea", fn := fun _ => fun
  | [d1, d2] => { results := [.lit (.bool false)], args := [d1, d2] }
  | _ => none }
def LatticeAreaWrongFalsely : Prop := latticeAreaRow.holds Try.pinned (OpenSpec.ofChange latticeAreaWrong)

/-- 'rankmerelaw4.LatticeSame': WHATEVER THE INPUT: true; the input reads as it did. -/
def latticeSameSpec : ChangeSpec := { name := "latticeSame", fn := fun _ => fun
  | [d1, d2, d3, d4] => { results := [.lit (.bool true)], args := [d1, d2, d3, d4] }
  | _ => none }
def latticeSameRow : OpenClaim := { program := "ytghhccalfbgjjaa", sum := "60144445312f5ff693220211cbd0cabae13e14205e4086696cd37a44b2020c3f", func := "rankmere/rankmerelaw4.LatticeSame", spec := "latticeSame", apart := false }
def LatticeSameSaid : Prop := latticeSameRow.holds Try.pinned (OpenSpec.ofChange latticeSameSpec)

/-- ITS FALSE NEIGHBOUR: 'it returns false'. Refute it at one input. -/
def latticeSameWrong : ChangeSpec := { name := "latticeSame", fn := fun _ => fun
  | [d1, d2, d3, d4] => { results := [.lit (.bool false)], args := [d1, d2, d3, d4] }
  | _ => none }
def LatticeSameWrongFalsely : Prop := latticeSameRow.holds Try.pinned (OpenSpec.ofChange latticeSameWrong)

/- THE SECOND FORM. 'bulk': how many values and letters a reading holds, each counted each time it is reached (what is shared counts as often as it is met; a slice's spare places count too). A statement '..UptoSaid' is the law's where the arguments, and the package variables that the reading takes, are together of bulk at most 1048576: NARROWER than '..Said'. Prove '..Said' where nothing that the law and all that it calls make is longer than what came in: it says more and counts as full. Else prove '..UptoSaid'. A law counts once. -/
mutual
def uptoBulk {H : Type} : DataW H → Nat
  | .lit (.string bytes) => bytes.length + 1
  | .lit _ => 1
  | .nil => 1
  | .ptr d => uptoBulk d + 1
  | .slice elems spare => uptoBulkAll elems + uptoBulkAll spare + 1
  | .agg parts => uptoBulkAll parts + 1
  | .iface _ d => uptoBulk d + 1
  | .map entries => uptoBulkEntries entries + 1
  | .held _ => 1
def uptoBulkAll {H : Type} : List (DataW H) → Nat
  | [] => 0
  | d :: r => uptoBulk d + uptoBulkAll r
def uptoBulkEntries {H : Type} : List (Lit × DataW H) → Nat
  | [] => 0
  | x :: r => uptoBulkEntry x + uptoBulkEntries r
def uptoBulkEntry {H : Type} : Lit × DataW H → Nat
  | (.string bytes, d) => bytes.length + uptoBulk d + 1
  | (_, d) => uptoBulk d + 1
 end
def uptoSmall : (H : Type) → List (DataW H) → Bool := fun _ ds => decide (uptoBulkAll ds ≤ 1048576)
def OpenSpec.upto (s : _root_.Go.ChangeSpec) : _root_.Go.OpenSpec := { _root_.Go.OpenSpec.ofChange s with cond := some uptoSmall }

/-- 'rankmerelaw4.LatticeShort', WHERE WHAT IT READS IS OF BULK AT MOST 1048576: true; the input reads as it did. -/
def latticeShortUptoRow : OpenClaim := { program := "ytghhccalfbgjjaa", sum := "60144445312f5ff693220211cbd0cabae13e14205e4086696cd37a44b2020c3f", func := "rankmere/rankmerelaw4.LatticeShort", spec := "latticeShort", apart := false, narrowed := true }
def LatticeShortUptoSaid : Prop := latticeShortUptoRow.holds Try.pinned (OpenSpec.upto latticeShortSpec)

/-- 'rankmerelaw4.LatticeArea', WHERE WHAT IT READS IS OF BULK AT MOST 1048576: true; the input reads as it did. -/
def latticeAreaUptoRow : OpenClaim := { program := "ytghhccalfbgjjaa", sum := "60144445312f5ff693220211cbd0cabae13e14205e4086696cd37a44b2020c3f", func := "rankmere/rankmerelaw4.LatticeArea", spec := "latticeArea", apart := false, narrowed := true }
def LatticeAreaUptoSaid : Prop := latticeAreaUptoRow.holds Try.pinned (OpenSpec.upto latticeAreaSpec)

/-- 'rankmerelaw4.LatticeSame', WHERE WHAT IT READS IS OF BULK AT MOST 1048576: true; the input reads as it did. -/
def latticeSameUptoRow : OpenClaim := { program := "ytghhccalfbgjjaa", sum := "60144445312f5ff693220211cbd0cabae13e14205e4086696cd37a44b2020c3f", func := "rankmere/rankmerelaw4.LatticeSame", spec := "latticeSame", apart := false, narrowed := true }
def LatticeSameUptoSaid : Prop := latticeSameUptoRow.holds Try.pinned (OpenSpec.upto latticeSameSpec)

end Rows
end Go.Proofs.Ytghhccalfbgjjaa
